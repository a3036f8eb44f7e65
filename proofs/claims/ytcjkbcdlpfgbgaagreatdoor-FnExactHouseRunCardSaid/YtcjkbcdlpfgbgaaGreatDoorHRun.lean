/- HouseRun: both are the deeds done one behind the other; the exact law. Own work; no program in sight. -/
import Derived.Test.YtcjkbcdlpfgbgaaGreatDoorHeld
import Derived.Test.YtcjkbcdlpfgbgaaGreatDoorDeeds
import Derived.Test.YtcjkbcdlpfgbgaaGreatDoorShRun
set_option linter.unusedVariables false
namespace Go.Proofs.YtcjkbcdlpfgbgaaGreatDoor
open Go Go.RowKit
noncomputable def stepZ (h : HH) (d : HDeed) : HH × Bool := doZ h.1 h.2.1 h.2.2.1 h.2.2.2.1 h.2.2.2.2 d.1 d.2.1 d.2.2.1 d.2.2.2
noncomputable def gstep (s : HH × Nat) (d : HDeed) : HH × Nat := ((stepZ s.1 d).1, if (stepZ s.1 d).2 then s.2 + 1 else s.2)
noncomputable def goZ (xs : List HDeed) (h : HH) : HH × Nat := xs.foldl gstep (h, 0)
def HL (h : HH) : Prop := HouseL h.1 h.2.1 h.2.2.1 h.2.2.2.2
noncomputable def hB (h : HH) : Bool := houseB h.1 h.2.1 h.2.2.1 h.2.2.2.1 h.2.2.2.2
theorem stepZ_L {h : HH} (hL : HL h) (d : HDeed) : HL (stepZ h d).1 := doZ_L hL _ _ _ _
theorem finZ_cases (it : List HItem) (pr st : List Int) (cash : Int) (tb : List HTab) (e : Option EE) (hv : houseB it pr st cash tb = true) : hB (finZ it pr st cash tb e).1 = true ∧ ((finZ it pr st cash tb e).2 = false → (finZ it pr st cash tb e).1 = (it, pr, st, cash, tb)) := by
  unfold finZ
  cases e with
  | none => exact ⟨hv, fun _ => rfl⟩
  | some e =>
    dsimp only
    by_cases h : houseB it pr e.1 e.2.1 e.2.2 = true
    · rw [if_pos h]; exact ⟨h, fun h => by cases h⟩
    · rw [if_neg h]; exact ⟨hv, fun _ => rfl⟩
theorem stepZ_cases {h : HH} (hv : hB h = true) (d : HDeed) : hB (stepZ h d).1 = true ∧ ((stepZ h d).2 = false → (stepZ h d).1 = h) := by
  have hv' : houseB h.1 h.2.1 h.2.2.1 h.2.2.2.1 h.2.2.2.2 = true := hv
  unfold stepZ doZ
  rw [if_pos hv']
  split
  · exact finZ_cases _ _ _ _ _ _ hv'
  · exact ⟨hv, fun _ => rfl⟩
theorem goZ_succ (xs : List HDeed) (h : HH) {k : Nat} (hk : k < xs.length) : goZ (xs.take (k + 1)) h = gstep (goZ (xs.take k) h) xs[k] := by
  unfold goZ
  rw [List.take_succ_eq_append_getElem hk, List.foldl_append]; rfl
theorem goZ_all {h : HH} (hL : HL h) (hv : hB h = true) (xs : List HDeed) : HL (goZ xs h).1 ∧ hB (goZ xs h).1 = true ∧ (goZ xs h).2 ≤ xs.length := by
  have key : ∀ (xs : List HDeed) (s : HH × Nat), HL s.1 → hB s.1 = true → HL (xs.foldl gstep s).1 ∧ hB (xs.foldl gstep s).1 = true ∧ (xs.foldl gstep s).2 ≤ s.2 + xs.length := by
    intro xs
    induction xs with
    | nil => intro s h1 h2; exact ⟨h1, h2, Nat.le_refl _⟩
    | cons d xs ih =>
      intro s h1 h2
      have := ih (gstep s d) (stepZ_L h1 d) (stepZ_cases h2 d).1
      refine ⟨this.1, this.2.1, Nat.le_trans this.2.2 ?_⟩
      show (if (stepZ s.1 d).2 then s.2 + 1 else s.2) + xs.length ≤ s.2 + (xs.length + 1)
      split <;> omega
  have := key xs (h, 0) hL hv
  simpa [goZ] using this
noncomputable def goR (h : HH) (xs : List HDeed) : HH × Int := if hB h = true then ((goZ xs h).1, ((goZ xs h).2 : Int)) else (([], [], [], 0, []), 0)
theorem goR_L {h : HH} (hL : HL h) (xs : List HDeed) : HL (goR h xs).1 := by
  unfold goR
  split
  · rename_i hv; exact (goZ_all hL hv xs).1
  · exact ⟨⟨by simp, fun x hx => by cases hx⟩, by simp, by simp, by simp, fun x hx => by cases hx⟩
theorem go_step {α : Type} {h : HH} (hL : HL h) (hv : hB h = true) {xs : List HDeed} (hx : xs.length ≤ 1048576) {k : Nat} (hk : k < xs.length) (F : Int → HH → α) : (if (stepZ (goZ (xs.take k) h).1 xs[k]).2 = true then F (IntKind.wrap .i64 (((goZ (xs.take k) h).2 : Int) + 1)) (stepZ (goZ (xs.take k) h).1 xs[k]).1 else F ((goZ (xs.take k) h).2 : Int) (stepZ (goZ (xs.take k) h).1 xs[k]).1) = F ((goZ (xs.take (k + 1)) h).2 : Int) (goZ (xs.take (k + 1)) h).1 := by
  have hn := (goZ_all hL hv (xs.take k)).2.2
  have hl : (xs.take k).length ≤ xs.length := by simp; omega
  rw [goZ_succ xs h hk]
  unfold gstep
  dsimp only
  by_cases hb : (stepZ (goZ (xs.take k) h).1 xs[k]).2 = true
  · rw [if_pos hb, if_pos hb, wr ⟨by omega, by omega⟩]; rfl
  · rw [if_neg hb, if_neg hb]
theorem implRun_eq {h : HH} (hL : HL h) (xs : List HDeed) (hx : xs.length ≤ 1048576) : impl_HouseRunS h.1 h.2.1 h.2.2.1 h.2.2.2.1 h.2.2.2.2 xs = some (goR h xs) := by
  obtain ⟨it, pr, st, cash, tb⟩ := h
  have e0 : goZ (xs.take 0) (it, pr, st, cash, tb) = ((it, pr, st, cash, tb), 0) := rfl
  show impl_HouseRunS it pr st cash tb xs = _
  unfold impl_HouseRunS goR
  rw [implHouse_eq _ hL, Option.bind_some]
  by_cases hv : hB (it, pr, st, cash, tb) = true
  · have hv' : houseB it pr st cash tb = true := hv
    rw [if_neg (by rw [hv']; simp), if_pos hv, implCopyH_id _ hL, Option.bind_some, loopDet (s := ((0 : Int), (0 : Int), it, pr, st, cash, tb)) (fun k => (((goZ (xs.take k) (it, pr, st, cash, tb)).2 : Int), (k : Int), (goZ (xs.take k) (it, pr, st, cash, tb)).1)) xs.length (((goZ xs (it, pr, st, cash, tb)).2 : Int), (goZ xs (it, pr, st, cash, tb)).1) (by rw [e0]; rfl)]
    · rfl
    · intro k hk
      have hk' := goZ_all hL hv (xs.take k)
      (try dsimp only)
      rw [if_pos (lt_dec hk), geti_lt' hk, Option.bind_some, implDo_eq hk'.1, Option.bind_some, wr_succ (n := xs.length) (by omega) hk]
      exact go_step hL hv hx hk (fun n s => (some (.inl (n, ((k + 1 : Nat) : Int), s)) : Option ((Int × Int × HH) ⊕ (Int × HH))))
    · (try dsimp only)
      rw [if_neg (by simp), List.take_of_length_le (Nat.le_refl _)]
  · have hv' : ¬ houseB it pr st cash tb = true := hv
    rw [if_pos (by simpa using hv'), if_neg hv]
theorem specRun_eq {h : HH} (hL : HL h) (xs : List HDeed) (hx : xs.length ≤ 1048576) : spec_HouseRunS h.1 h.2.1 h.2.2.1 h.2.2.2.1 h.2.2.2.2 xs = some (goR h xs) := by
  obtain ⟨it, pr, st, cash, tb⟩ := h
  have e0 : goZ (xs.take 0) (it, pr, st, cash, tb) = ((it, pr, st, cash, tb), 0) := rfl
  show spec_HouseRunS it pr st cash tb xs = _
  unfold spec_HouseRunS goR
  rw [specHouse_eq _ hL, Option.bind_some]
  by_cases hv : hB (it, pr, st, cash, tb) = true
  · have hv' : houseB it pr st cash tb = true := hv
    rw [if_neg (by rw [hv']; simp), if_pos hv, specCopyH_id _ hL, Option.bind_some, loopDet (s := ((0 : Int), (0 : Int), it, pr, st, cash, tb)) (fun k => (((goZ (xs.take k) (it, pr, st, cash, tb)).2 : Int), (k : Int), (goZ (xs.take k) (it, pr, st, cash, tb)).1)) xs.length (((goZ xs (it, pr, st, cash, tb)).2 : Int), (goZ xs (it, pr, st, cash, tb)).1) (by rw [e0]; rfl)]
    · rfl
    · intro k hk
      have hk' := goZ_all hL hv (xs.take k)
      (try dsimp only)
      rw [if_pos (lt_dec hk), geti_lt' hk, Option.bind_some, specDo_eq hk'.1, Option.bind_some, wr_succ (n := xs.length) (by omega) hk]
      have := go_step hL hv hx hk (fun n s => (some (.inl (n, ((k + 1 : Nat) : Int), s)) : Option ((Int × Int × HH) ⊕ (Int × HH))))
      refine Eq.trans ?_ this
      by_cases hb : (stepZ (goZ (xs.take k) (it, pr, st, cash, tb)).1 xs[k]).2 = true
      · rw [if_pos hb]; exact if_pos hb
      · rw [if_neg hb, (stepZ_cases hk'.2.1 xs[k]).2 (by simpa using hb)]; exact if_neg hb
    · (try dsimp only)
      rw [if_neg (by simp), List.take_of_length_le (Nat.le_refl _)]
  · have hv' : ¬ houseB it pr st cash tb = true := hv
    rw [if_pos (by simpa using hv'), if_neg hv]
/-! ### the deeds marked behind the house -/
theorem eqDeedR_self (a b c d : Int) : laws_eqHouseDeedS a b c d a b c d = some true := by unfold laws_eqHouseDeedS; simp
theorem eqDeedsR_self (xs : List HDeed) (h : xs.length ≤ 4611686018427387904) : laws_eqHouseDeedSS xs xs = some true := by
  unfold laws_eqHouseDeedSS
  rw [if_neg (by simp), loopList xs (fun _ _ => true)]
  · rw [show allI xs (fun _ _ => true) = true from allI_true.2 fun _ _ => rfl]; rfl
  · intro k hk
    (try dsimp only)
    rw [if_pos (lt_dec hk), geti_lt' hk, Option.bind_some, Option.bind_some, eqDeedR_self, Option.bind_some, if_neg (by simp), wr_succ h hk]
    rfl
  · (try dsimp only)
    rw [if_neg (by simp)]
def mk4k (b k : Nat) : HDeed := (((b + 4 * k : Nat) : Int), ((b + 4 * k + 1 : Nat) : Int), ((b + 4 * k + 2 : Nat) : Int), ((b + 4 * k + 3 : Nat) : Int))
def mlk (b n : Nat) : List HDeed := (List.range n).map (mk4k b)
theorem mlk_len (b n : Nat) : (mlk b n).length = n := by simp [mlk]
theorem mlk_succ (b n : Nat) : mlk b (n + 1) = mlk b n ++ [mk4k b n] := by unfold mlk; rw [List.range_succ, List.map_append]; rfl
theorem markK_eq (b : Nat) (hb : b ≤ 4611686018427387904) (xs : List HDeed) (h : xs.length ≤ 1048577) : laws_markHouseDeedSS xs (b : Int) = some (mlk b xs.length, ((b + 4 * xs.length : Nat) : Int)) := by
  unfold laws_markHouseDeedSS
  rw [loopDet (s := ((b : Int), (0 : Int), xs)) (fun k => (((b + 4 * k : Nat) : Int), (k : Int), mlk b k ++ xs.drop k)) xs.length (((b + 4 * xs.length : Nat) : Int), mlk b xs.length)]
  · rfl
  · simp [mlk]
  · intro k hk
    (try dsimp only)
    have hl : (mlk b k ++ xs.drop k).length = xs.length := by simp [mlk_len]; omega
    rw [hl, if_pos (lt_dec hk)]
    rw [List.drop_eq_getElem_cons hk]
    generalize hx : xs[k] = x
    generalize xs.drop (k + 1) = r
    have hk' : (mlk b k).length = k := mlk_len b k
    have e1 : ∀ y : HDeed, geti (mlk b k ++ y :: r) (k : Int) = some y := fun y => by have := geti_mid (mlk b k) y r; rwa [hk'] at this
    have e2 : ∀ y z : HDeed, (mlk b k ++ y :: r).set k z = mlk b k ++ z :: r := fun y z => by have := set_mid (mlk b k) y z r; rwa [hk'] at this
    rw [show Int.toNat (k : Int) = k from rfl]
    rw [e1, Option.bind_some, e2, e1, Option.bind_some, e2, e1, Option.bind_some, e2, e1, Option.bind_some, e2]
    rw [show (((b + 4 * k : Nat) : Int) + 1) = ((b + 4 * k + 1 : Nat) : Int) by omega, wrn (by omega), show (((b + 4 * k + 1 : Nat) : Int) + 1) = ((b + 4 * k + 2 : Nat) : Int) by omega, wrn (by omega), show (((b + 4 * k + 2 : Nat) : Int) + 1) = ((b + 4 * k + 3 : Nat) : Int) by omega, wrn (by omega), show (((b + 4 * k + 3 : Nat) : Int) + 1) = ((b + 4 * (k + 1) : Nat) : Int) by omega, wrn (by omega), wr_succ (n := xs.length) (by omega) hk, mlk_succ]
    simp [mk4k]
  · (try dsimp only)
    have hl : (mlk b xs.length ++ xs.drop xs.length).length = xs.length := by simp [mlk_len]
    rw [hl, if_neg (by simp)]
    simp
theorem mkHouse_le {it : List HItem} {pr st : List Int} {tb : List HTab} (h : HouseL it pr st tb) : (mkHouse it pr st tb 1).2 ≤ 4611686018427387904 := by
  obtain ⟨hi, hp, hs, ht⟩ := h
  have b1 := mkIts_le hi 1
  have b2 := mkIs_le pr (mapAcc mkIt it 1).2
  have b3 := mkIs_le st (mapAcc mkI pr (mapAcc mkIt it 1).2).2
  have b4 := mkTbs_le ht (mapAcc mkI st (mapAcc mkI pr (mapAcc mkIt it 1).2).2).2
  have hil := hi.1
  have htl := ht.1
  show (mapAcc mkTb tb _).2 ≤ _
  omega
theorem toDeeds_id (xs : List HDeed) (h : xs.length ≤ 1048576) : laws_toHouseDeedSS xs = some xs := by
  unfold laws_toHouseDeedSS
  rw [mkO_nat _ (by omega), Option.bind_some, copyLoop xs (fun x => x), List.map_id']
  · rfl
  · intro k hk ys hl
    (try dsimp only)
    unfold laws_toHouseDeedS
    rw [if_pos (lt_dec hk), geti_lt' hk, Option.bind_some, Option.bind_some, geti_lt' (show k < ys.length by omega), Option.bind_some, wr_succ (n := xs.length) (by omega) hk]
    rfl
  · intro ys hl
    (try dsimp only)
    rw [if_neg (by simp)]
theorem pl_FnExactHouseRun (it : List HItem) (pr st : List Int) (cash : Int) (tb : List HTab) (h : RHouse it pr st tb) (xs : List HDeed) {q : Prop} (hx : xs.length ≤ maxLen ∧ q) : laws_FnExactHouseRunS it pr st cash tb xs = some true := by
  unfold laws_FnExactHouseRunS
  have hm : xs.length ≤ 9223372036854775807 := by simpa [maxLen] using hx.1
  obtain ⟨r, hr, h1⟩ := szHouse_ok cash h
  rw [hr, Option.bind_some]
  rcases h1 with h1 | ⟨h1, h2, hL⟩
  · rw [if_pos (decide_eq_true h1)]
  rw [if_neg (by simp; omega)]
  unfold laws_szHouseDeedSS
  rw [wr (x := r - (xs.length : Int)) ⟨by omega, by omega⟩]
  by_cases hn : (xs.length : Int) ≤ r
  · have hxl : xs.length ≤ 1048576 := by omega
    have hD := goR_L (h := (it, pr, st, cash, tb)) hL xs
    have hnn : ¬ ((((mkHouse it pr st tb 1).2 + 4 * xs.length : Nat) : Int) < 0) := by omega
    have eI := implRun_eq (h := (it, pr, st, cash, tb)) hL xs hxl
    have eS := specRun_eq (h := (it, pr, st, cash, tb)) hL xs hxl
    dsimp only at eI eS
    rw [if_neg (by simp; omega), Option.bind_some, if_neg (by simp; omega), toHouse_id cash hL, toDeeds_id xs hxl]
    simp only [Option.bind_some]
    rw [eS, eI]
    simp only [Option.bind_some]
    rw [eqHouse_self _ hD]
    simp only [Option.bind_some, bne_self_eq_false, Bool.not_true, Bool.or_self, Bool.false_eq_true, if_false]
    rw [eqHouse_self cash hL, eqDeedsR_self xs (by omega), markHouse_eq cash hL, markHouse_eq _ hD]
    simp only [Option.bind_some, Bool.not_true, Bool.false_eq_true, if_false]
    rw [markK_eq _ (mkHouse_le hL) xs (by omega)]
    simp only [Option.bind_some]
    rw [decide_eq_false hnn]
    simp only [Bool.false_eq_true, if_false, Option.bind_some, Bool.or_self]
    rw [heldHouse_eq _ hD]
    simp only [Option.bind_some]
    rw [if_neg (by simp), if_neg (by simp), if_neg (by simp), if_neg (by simp)]
  · rw [if_pos (by simp; omega), Option.bind_some, if_pos (by simp)]
end Go.Proofs.YtcjkbcdlpfgbgaaGreatDoor
