import Derived.Test.YtpabogkcmbkffaaGreatDoorRunLaw
import Derived.Test.YtpabogkcmbkffaaGreatDoorDeeds
import Derived.Test.YtpabogkcmbkffaaGreatDoorKitGo
import Derived.Test.YtpabogkcmbkffaaGreatDoorDrawH
import Derived.Test.YtpabogkcmbkffaaGreatDoorSameH
/- Deeds done one behind the other, in parts as well. Own work; no program in sight. -/
set_option linter.unusedVariables false
namespace Go.Proofs.YtpabogkcmbkffaaGreatDoor
open Go Go.RowKit
noncomputable def stepZ (h : HH) (d : HDeed) : HH × Bool := doZ h.1 h.2.1 h.2.2.1 h.2.2.2.1 h.2.2.2.2 d.1 d.2.1 d.2.2.1 d.2.2.2
noncomputable def gstep (s : HH × Nat) (d : HDeed) : HH × Nat := ((stepZ s.1 d).1, if (stepZ s.1 d).2 then s.2 + 1 else s.2)
noncomputable def goZ (xs : List HDeed) (h : HH) : HH × Nat := xs.foldl gstep (h, 0)
def HL (h : HH) : Prop := HouseL h.1 h.2.1 h.2.2.1 h.2.2.2.2
noncomputable def hB (h : HH) : Bool := houseB h.1 h.2.1 h.2.2.1 h.2.2.2.1 h.2.2.2.2
theorem stepZ_L {h : HH} (hL : HL h) (d : HDeed) : HL (stepZ h d).1 := doZ_L hL _ _ _ _
theorem finZ_cases (it : List HItem) (pr st : List Int) (cash : Int) (tb : List HTab) (e : Option EE) (hv : houseB it pr st cash tb = true) : hB (finZ it pr st cash tb e).1 = true ∧ ((finZ it pr st cash tb e).2 = false → (finZ it pr st cash tb e).1 = (it, pr, st, cash, tb)) := by
  unfold finZ
  cases e with
  | none => exact ⟨hv, fun _ => rfl⟩
  | some e =>
    dsimp only
    by_cases h : houseB it pr e.1 e.2.1 e.2.2 = true
    · rw [if_pos h]; exact ⟨h, fun h => by cases h⟩
    · rw [if_neg h]; exact ⟨hv, fun _ => rfl⟩
theorem stepZ_cases {h : HH} (hv : hB h = true) (d : HDeed) : hB (stepZ h d).1 = true ∧ ((stepZ h d).2 = false → (stepZ h d).1 = h) := by
  have hv' : houseB h.1 h.2.1 h.2.2.1 h.2.2.2.1 h.2.2.2.2 = true := hv
  unfold stepZ doZ
  rw [if_pos hv']
  split
  · exact finZ_cases _ _ _ _ _ _ hv'
  · exact ⟨hv, fun _ => rfl⟩
theorem goZ_succ (xs : List HDeed) (h : HH) {k : Nat} (hk : k < xs.length) : goZ (xs.take (k + 1)) h = gstep (goZ (xs.take k) h) xs[k] := by
  unfold goZ
  rw [List.take_succ_eq_append_getElem hk, List.foldl_append]; rfl
theorem goZ_all {h : HH} (hL : HL h) (hv : hB h = true) (xs : List HDeed) : HL (goZ xs h).1 ∧ hB (goZ xs h).1 = true ∧ (goZ xs h).2 ≤ xs.length := by
  have key : ∀ (xs : List HDeed) (s : HH × Nat), HL s.1 → hB s.1 = true → HL (xs.foldl gstep s).1 ∧ hB (xs.foldl gstep s).1 = true ∧ (xs.foldl gstep s).2 ≤ s.2 + xs.length := by
    intro xs
    induction xs with
    | nil => intro s h1 h2; exact ⟨h1, h2, Nat.le_refl _⟩
    | cons d xs ih =>
      intro s h1 h2
      have := ih (gstep s d) (stepZ_L h1 d) (stepZ_cases h2 d).1
      refine ⟨this.1, this.2.1, Nat.le_trans this.2.2 ?_⟩
      show (if (stepZ s.1 d).2 then s.2 + 1 else s.2) + xs.length ≤ s.2 + (xs.length + 1)
      split <;> omega
  have := key xs (h, 0) hL hv
  simpa [goZ] using this
noncomputable def goR (h : HH) (xs : List HDeed) : HH × Int := if hB h = true then ((goZ xs h).1, ((goZ xs h).2 : Int)) else (([], [], [], 0, []), 0)
theorem go_step {α : Type} {h : HH} (hL : HL h) (hv : hB h = true) {xs : List HDeed} (hx : xs.length ≤ 1048576) {k : Nat} (hk : k < xs.length) (F : Int → HH → α) : (if (stepZ (goZ (xs.take k) h).1 xs[k]).2 = true then F (IntKind.wrap .i64 (((goZ (xs.take k) h).2 : Int) + 1)) (stepZ (goZ (xs.take k) h).1 xs[k]).1 else F ((goZ (xs.take k) h).2 : Int) (stepZ (goZ (xs.take k) h).1 xs[k]).1) = F ((goZ (xs.take (k + 1)) h).2 : Int) (goZ (xs.take (k + 1)) h).1 := by
  have hn := (goZ_all hL hv (xs.take k)).2.2
  have hl : (xs.take k).length ≤ xs.length := by simp; omega
  rw [goZ_succ xs h hk]
  unfold gstep
  dsimp only
  by_cases hb : (stepZ (goZ (xs.take k) h).1 xs[k]).2 = true
  · rw [if_pos hb, if_pos hb, wr ⟨by omega, by omega⟩]; rfl
  · rw [if_neg hb, if_neg hb]
theorem goZ_app (xs ys : List HDeed) (h : HH) : goZ (xs ++ ys) h = ((goZ ys (goZ xs h).1).1, (goZ xs h).2 + (goZ ys (goZ xs h).1).2) := by
  have key : ∀ (ys : List HDeed) (s : HH) (n : Nat), ys.foldl gstep (s, n) = ((ys.foldl gstep (s, 0)).1, n + (ys.foldl gstep (s, 0)).2) := by
    intro ys
    induction ys with
    | nil => intro s n; rfl
    | cons d ys ih =>
      intro s n
      have e1 : (d :: ys).foldl gstep (s, n) = ys.foldl gstep ((stepZ s d).1, if (stepZ s d).2 then n + 1 else n) := rfl
      have e2 : (d :: ys).foldl gstep (s, 0) = ys.foldl gstep ((stepZ s d).1, if (stepZ s d).2 then 0 + 1 else 0) := rfl
      rw [e1, e2, ih, ih (stepZ s d).1 (if (stepZ s d).2 then 0 + 1 else 0)]
      refine Prod.ext rfl ?_
      show _ + _ = n + (_ + _)
      split <;> omega
  unfold goZ
  rw [List.foldl_append]
  exact key ys _ _
theorem goZ_cons_ok {d : HDeed} {ds : List HDeed} {h h' : HH} (e : stepZ h d = (h', true)) : goZ (d :: ds) h = ((goZ ds h').1, 1 + (goZ ds h').2) := by
  have := goZ_app [d] ds h
  have e1 : goZ [d] h = (h', 1) := by
    show ((stepZ h d).1, if (stepZ h d).2 then 0 + 1 else 0) = _
    rw [e]; rfl
  rw [e1] at this
  exact this
end Go.Proofs.YtpabogkcmbkffaaGreatDoor

/- HouseRun of both sides is the run of deeds. Own work; no program in sight. -/
set_option linter.unusedVariables false
namespace Go.Proofs.YtpabogkcmbkffaaGreatDoor
open Go Go.RowKit
theorem implRun_eq {h : HH} (hL : HL h) (xs : List HDeed) (hx : xs.length ≤ 1048576) : impl_HouseRunS h.1 h.2.1 h.2.2.1 h.2.2.2.1 h.2.2.2.2 xs = some (goR h xs) := by
  obtain ⟨it, pr, st, cash, tb⟩ := h
  have e0 : goZ (xs.take 0) (it, pr, st, cash, tb) = ((it, pr, st, cash, tb), 0) := rfl
  show impl_HouseRunS it pr st cash tb xs = _
  unfold impl_HouseRunS goR
  rw [implHouse_eq _ hL, Option.bind_some]
  by_cases hv : hB (it, pr, st, cash, tb) = true
  · have hv' : houseB it pr st cash tb = true := hv
    rw [if_neg (by rw [hv']; simp), if_pos hv, implCopyH_id _ hL, Option.bind_some, loopDet (s := ((0 : Int), (0 : Int), it, pr, st, cash, tb)) (fun k => (((goZ (xs.take k) (it, pr, st, cash, tb)).2 : Int), (k : Int), (goZ (xs.take k) (it, pr, st, cash, tb)).1)) xs.length (((goZ xs (it, pr, st, cash, tb)).2 : Int), (goZ xs (it, pr, st, cash, tb)).1) (by rw [e0]; rfl)]
    · rfl
    · intro k hk
      have hk' := goZ_all hL hv (xs.take k)
      (try dsimp only)
      rw [if_pos (lt_dec hk), geti_lt' hk, Option.bind_some, implDo_eq hk'.1, Option.bind_some, wr_succ (n := xs.length) (by omega) hk]
      exact go_step hL hv hx hk (fun n s => (some (.inl (n, ((k + 1 : Nat) : Int), s)) : Option ((Int × Int × HH) ⊕ (Int × HH))))
    · (try dsimp only)
      rw [if_neg (by simp), List.take_of_length_le (Nat.le_refl _)]
  · have hv' : ¬ houseB it pr st cash tb = true := hv
    rw [if_pos (by simpa using hv'), if_neg hv]
end Go.Proofs.YtpabogkcmbkffaaGreatDoor

/- By the deeds of the end all is served and paid. Own work; no program in sight. -/
set_option linter.unusedVariables false
namespace Go.Proofs.YtpabogkcmbkffaaGreatDoor
open Go Go.RowKit
/-! ### what is not paid yet -/
def owedTo (pr : List Int) (t : HTab) : Nat → Int
  | 0 => 0
  | k + 1 => owedTo pr t k + (if stateAt t k != 4 then priceAt pr t k else 0)
def owedT (pr : List Int) (t : HTab) : Int := owedTo pr t t.2.2.length
def owedsOf (pr : List Int) : List HTab → Int
  | [] => 0
  | t :: ts => owedT pr t + owedsOf pr ts
def Same (t u : HTab) : Prop := u.1 = t.1 ∧ u.2.2 = t.2.2 ∧ u.2.1.length = t.2.1.length ∧ ∀ j, (stateAt u j == 4) = (stateAt t j == 4)
theorem owed_same {pr : List Int} {t u : HTab} (h : Same t u) : owedT pr u = owedT pr t := by
  obtain ⟨h1, h2, h3, h4⟩ := h
  have key : ∀ k, owedTo pr u k = owedTo pr t k := by
    intro k
    induction k with
    | zero => rfl
    | succ k ih =>
      have hp : priceAt pr u k = priceAt pr t k := by unfold priceAt; rw [h2]
      have hs : (stateAt u k != 4) = (stateAt t k != 4) := by unfold bne; rw [h4 k]
      unfold owedTo
      rw [ih, hp, hs]
  unfold owedT
  rw [h2, key]
theorem oweds_app (pr : List Int) : ∀ a b : List HTab, owedsOf pr (a ++ b) = owedsOf pr a + owedsOf pr b
  | [], b => by simp [owedsOf]
  | t :: a, b => by
    show owedT pr t + owedsOf pr (a ++ b) = owedT pr t + owedsOf pr a + owedsOf pr b
    rw [oweds_app pr a b]; omega
theorem putTo_at {tb : List HTab} {ks : List Tick} (hl : ks.length = tb.length) : ∀ {k : Nat}, k ≤ tb.length → ∀ i (h : i < k) (h1 : i < tb.length) (h2 : i < ks.length), (putTo tb ks k)[i]? = some (tb[i].1, ks[i], tb[i].2.2)
  | k + 1, hk, i, hi, h1, h2 => by
    rw [putTo_step (by omega) (by omega)]
    rcases Nat.lt_or_ge i k with h3 | h3
    · rw [List.getElem?_set_ne (by omega)]; exact putTo_at hl (by omega) i h3 h1 h2
    · obtain rfl : i = k := by omega
      rw [List.getElem?_set_self (by rw [putTo_len]; omega)]
theorem putTo_set {tb : List HTab} {i : Nat} (hi : i < tb.length) (u : Tick) : putTo tb ((ticksOf tb).set i u) tb.length = tb.set i (tb[i].1, u, tb[i].2.2) := by
  have hl : ((ticksOf tb).set i u).length = tb.length := by simp [ticksOf]
  refine List.ext_getElem (by rw [putTo_len, List.length_set]) fun q h1 h2 => ?_
  have hq : q < tb.length := by rw [putTo_len] at h1; exact h1
  have hg := putTo_at hl (Nat.le_refl _) q hq hq (by omega)
  rw [List.getElem?_eq_getElem h1] at hg
  rw [Option.some.inj hg, List.getElem_set, List.getElem_set]
  by_cases e : i = q
  · subst e; rw [if_pos rfl, if_pos rfl]
  · rw [if_neg e, if_neg e]; simp [ticksOf]
section
variable {it : List HItem} {pr st : List Int} {cash : Int} {tb : List HTab}
theorem work_eq (h : (stepK (ticksOf tb)).2 = true) : ∃ i j, ∃ hi : i < tb.length, ∃ hj : j < tb[i].2.1.length, (0 ≤ tb[i].2.1[j].2 ∧ tb[i].2.1[j].2 ≤ 2) ∧ ticketB (tb[i].2.1.set j (tb[i].2.1[j].1, tb[i].2.1[j].2 + 1)) = true ∧
    putTo tb (stepK (ticksOf tb)).1 tb.length = tb.set i (tb[i].1, tb[i].2.1.set j (tb[i].2.1[j].1, tb[i].2.1[j].2 + 1), tb[i].2.2) := by
  obtain ⟨i, j, hi, hj, hs, he, ht⟩ := step_at h
  have hi' : i < tb.length := by simpa [ticksOf] using hi
  have e : (ticksOf tb)[i] = tb[i].2.1 := by simp [ticksOf]
  have hset := setTk_at hi hj ((ticksOf tb)[i][j].2 + 1)
  revert hj
  rw [e]
  intro hj hs he ht hset
  refine ⟨i, j, hi', hj, hs, ht, ?_⟩
  rw [he, hset, putTo_set hi']
theorem table_step {t : HTab} (h : tableB it t = true) {u : Tick} (hu : ticketB u = true) (hl : u.length = t.2.1.length) : tableB it (t.1, u, t.2.2) = true := by
  obtain ⟨h1, h2, h3, h4⟩ := tableB_true.1 h
  exact tableB_true.2 ⟨h1, hu, by show t.2.2.length = u.length; omega, h4⟩
theorem houseB_put (hv : houseB it pr st cash tb = true) {cash' : Int} (hc : 0 ≤ cash' ∧ cash' ≤ 99999) {us : List HTab} (hl : us.length ≤ 4) (h : ∀ t ∈ us, tableB it t = true) : houseB it pr st cash' us = true := by
  unfold houseB at hv ⊢
  simp only [Bool.and_eq_true] at hv ⊢
  exact ⟨⟨hv.1.1, decide_eq_true hc⟩, decide_eq_true hl, List.all_eq_true.2 h⟩
theorem owed_step {t : HTab} {j : Nat} (hj : j < t.2.1.length) (hs : 0 ≤ t.2.1[j].2 ∧ t.2.1[j].2 ≤ 2) : owedT pr (t.1, t.2.1.set j (t.2.1[j].1, t.2.1[j].2 + 1), t.2.2) = owedT pr t := by
  refine owed_same ⟨rfl, rfl, by simp, fun q => ?_⟩
  unfold stateAt
  show ((match (t.2.1.set j (t.2.1[j].1, t.2.1[j].2 + 1))[q]? with | some o => o.2 | none => 0) == 4) = _
  rw [List.getElem?_set]
  by_cases e : j = q
  · subst e
    rw [if_pos rfl, if_pos hj, List.getElem?_eq_getElem hj]
    dsimp only
    have h1 : (t.2.1[j].2 + 1 == 4) = false := by rw [beq_eq_false_iff_ne]; omega
    have h2 : (t.2.1[j].2 == 4) = false := by rw [beq_eq_false_iff_ne]; omega
    rw [h1, h2]
  · rw [if_neg e]; rfl
theorem do_work (hv : houseB it pr st cash tb = true) (h : 0 < leftK (ticksOf tb)) : ∃ us, stepZ (it, pr, st, cash, tb) (4, 0, 0, 0) = ((it, pr, st, cash, us), true) ∧ houseB it pr st cash us = true ∧ leftK (ticksOf us) + 1 = leftK (ticksOf tb) ∧ owedsOf pr us = owedsOf pr tb ∧ us.length = tb.length := by
  have hy := step_yes (houseB_kit hv) h
  obtain ⟨h1, h2⟩ := step_left hy
  have hpa := putTo_all tb (stepK (ticksOf tb)).1 (by rw [stepK_len hy]; simp [ticksOf])
  obtain ⟨i, j, hi, hj, hs, ht, he⟩ := work_eq hy
  have htb := houseB_tables hv
  have hB : houseB it pr st cash (putTo tb (stepK (ticksOf tb)).1 tb.length) = true := by
    refine houseB_put hv (houseB_cash hv) (by rw [putTo_len]; exact htb.1) fun t hx => ?_
    rw [he] at hx
    rcases List.mem_or_eq_of_mem_set hx with hx | rfl
    · exact htb.2 t hx
    · exact table_step (htb.2 _ (List.getElem_mem hi)) ht (by simp)
  refine ⟨putTo tb (stepK (ticksOf tb)).1 tb.length, ?_, hB, by rw [hpa]; exact h1, ?_, putTo_len _ _ _⟩
  · show doZ it pr st cash tb 4 0 0 0 = _
    unfold doZ
    rw [if_pos hv, if_pos (by decide)]
    have e : effZ it pr st cash tb 4 0 0 0 = some (st, cash, putTo tb (stepK (ticksOf tb)).1 tb.length) := by
      unfold effZ
      rw [if_neg (by decide), if_neg (by decide), if_neg (by decide), if_neg (by decide), if_pos rfl]
      unfold workE
      rw [if_pos hy]
    rw [e]
    unfold finZ
    dsimp only
    rw [if_pos hB]
  · rw [he, set_split hi, oweds_app]
    conv => rhs; rw [split_at hi, oweds_app]
    show _ + (owedT pr _ + _) = _ + (owedT pr _ + _)
    rw [owed_step hj hs]
theorem do_works : ∀ (n : Nat) {tb : List HTab}, houseB it pr st cash tb = true → leftK (ticksOf tb) = n → ∃ us, goZ (List.replicate n (4, 0, 0, 0)) (it, pr, st, cash, tb) = ((it, pr, st, cash, us), n) ∧ houseB it pr st cash us = true ∧ leftK (ticksOf us) = 0 ∧ owedsOf pr us = owedsOf pr tb ∧ us.length = tb.length
  | 0, tb, hv, h => ⟨tb, rfl, hv, h, rfl, rfl⟩
  | n + 1, tb, hv, h => by
    obtain ⟨us, e1, e2, e3, e4, e5⟩ := do_work hv (by omega)
    obtain ⟨vs, f1, f2, f3, f4, f5⟩ := do_works n e2 (by omega)
    refine ⟨vs, ?_, f2, f3, by rw [f4, e4], by rw [f5, e5]⟩
    rw [List.replicate_succ, goZ_cons_ok e1, f1]
    refine Prod.ext rfl ?_
    show 1 + n = n + 1
    omega
theorem leftK_mem : ∀ {ks : List Tick}, leftK ks = 0 → ∀ t ∈ ks, leftN t = 0
  | t :: ks, h, u, hu => by
    unfold leftK at h
    rcases List.mem_cons.1 hu with rfl | hu
    · omega
    · exact leftK_mem (ks := ks) (by omega) u hu
theorem owed_bill {t : HTab} (hl : t.2.2.length = t.2.1.length) (hv : ticketB t.2.1 = true) (h : leftN t.2.1 = 0) : owedT pr t = billT pr t := by
  have h3 := (left_done hv h).1
  have key : ∀ k, k ≤ t.2.1.length → owedTo pr t k = billTo pr t k := by
    intro k
    induction k with
    | zero => intro _; rfl
    | succ k ih =>
      intro hk
      have hk' : k < t.2.1.length := by omega
      have h3' := h3 _ (List.getElem_mem hk')
      have h4 := (ticket_in hv (List.getElem_mem hk')).2
      have hs : (stateAt t k != 4) = (stateAt t k == 3) := by
        rw [stateAt_lt hk', Bool.eq_iff_iff, bne_iff_ne, beq_iff_eq]; omega
      unfold owedTo billTo
      rw [ih (by omega), hs]
  unfold owedT billT
  rw [hl, key _ (Nat.le_refl _)]
theorem do_closes : ∀ (tb : List HTab) {cash : Int}, houseB it pr st cash tb = true → leftK (ticksOf tb) = 0 → cash + owedsOf pr tb ≤ 99999 → goZ (List.replicate tb.length (5, 0, 0, 0)) (it, pr, st, cash, tb) = ((it, pr, st, cash + owedsOf pr tb, []), tb.length)
  | [], cash, hv, _, _ => by
    show ((it, pr, st, cash, []), 0) = _
    simp [owedsOf]
  | t :: ts, cash, hv, h0, hw => by
    have htb := houseB_tables hv
    have hts := tableB_true.1 (htb.2 t (by simp))
    have hlt : leftN t.2.1 = 0 := leftK_mem h0 _ (by simp [ticksOf])
    have hdone := (left_done hts.2.1 hlt).2
    have hob := owed_bill (pr := pr) hts.2.2.1 hts.2.1 hlt
    have h0' : 0 < (t :: ts).length := by simp
    have hbill : billZ it pr st cash (t :: ts) 0 = owedT pr t := by
      have e := billZ_at (k := 0) hv h0'
      rw [billOf_lt h0'] at e
      rw [hob]
      exact e
    have hb0 := (billOf_range hv 0)
    rw [← billZ_at (k := 0) hv h0', show ((0 : Nat) : Int) = 0 from rfl, hbill] at hb0
    have hrest : 0 ≤ owedsOf pr ts := by
      have hp := (houseB_prices hv).2
      have one : ∀ (t : HTab) (k : Nat), 0 ≤ owedTo pr t k := by
        intro t k
        induction k with
        | zero => exact Int.le_refl 0
        | succ k ih =>
          have : 0 ≤ priceAt pr t k := by
            unfold priceAt
            split
            · exact (getD_range hp _).1
            · decide
          unfold owedTo
          split <;> omega
      have all : ∀ ts : List HTab, 0 ≤ owedsOf pr ts := by
        intro ts
        induction ts with
        | nil => exact Int.le_refl 0
        | cons u us ih =>
          have := one u u.2.2.length
          show 0 ≤ owedT pr u + owedsOf pr us
          unfold owedT
          omega
      exact all ts
    have hw' : cash + (owedT pr t + owedsOf pr ts) ≤ 99999 := hw
    have hc := houseB_cash hv
    have hB : houseB it pr st (cash + owedT pr t) ts = true := houseB_put hv ⟨by omega, by omega⟩ (by have := htb.1; simp at this; omega) fun u hu => htb.2 u (by simp [hu])
    have e1 : stepZ (it, pr, st, cash, t :: ts) (5, 0, 0, 0) = ((it, pr, st, cash + owedT pr t, ts), true) := by
      show doZ it pr st cash (t :: ts) 5 0 0 0 = _
      unfold doZ
      rw [if_pos hv, if_pos (by decide)]
      have e : effZ it pr st cash (t :: ts) 5 0 0 0 = some (st, cash + owedT pr t, ts) := by
        unfold effZ
        rw [if_neg (by decide), if_neg (by decide), if_neg (by decide), if_neg (by decide), if_neg (by decide), if_pos rfl]
        unfold closeE
        rw [show geti (t :: ts) 0 = some t from rfl]
        dsimp only
        rw [if_pos hdone, hbill]; rfl
      rw [e]
      unfold finZ
      dsimp only
      rw [if_pos hB]
    have hl0 : leftK (ticksOf ts) = 0 := by
      have : leftK (t.2.1 :: ticksOf ts) = 0 := h0
      unfold leftK at this
      omega
    have ih := do_closes ts hB hl0 (by omega)
    show goZ (List.replicate (ts.length + 1) (5, 0, 0, 0)) _ = _
    rw [List.replicate_succ, goZ_cons_ok e1, ih]
    refine Prod.ext ?_ ?_
    · show (it, pr, st, cash + owedT pr t + owedsOf pr ts, []) = (it, pr, st, cash + (owedT pr t + owedsOf pr ts), [])
      rw [Int.add_assoc]
    · show 1 + ts.length = ts.length + 1
      omega
theorem end_run (hv : houseB it pr st cash tb = true) (hw : cash + owedsOf pr tb ≤ 99999) : goZ (endDeeds tb) (it, pr, st, cash, tb) = ((it, pr, st, cash + owedsOf pr tb, []), (endDeeds tb).length) := by
  obtain ⟨us, e1, e2, e3, e4, e5⟩ := do_works _ hv rfl
  unfold endDeeds
  rw [goZ_app, e1, ← e5, do_closes us e2 e3 (by rw [e4]; exact hw), e4]
  refine Prod.ext rfl ?_
  simp
end
end Go.Proofs.YtpabogkcmbkffaaGreatDoor

/- FnEndDeeds: in the end everybody is served and has paid. Own work; no program in sight. -/
set_option linter.unusedVariables false
namespace Go.Proofs.YtpabogkcmbkffaaGreatDoor
open Go Go.RowKit
theorem sameDeedsE_self (xs : List HDeed) (h : xs.length ≤ 4611686018427387904) : laws_sameDeedsS xs xs = some true := by
  unfold laws_sameDeedsS
  rw [if_neg (by simp), loopList xs (fun _ _ => true)]
  · rw [show allI xs (fun _ _ => true) = true from allI_true.2 fun _ _ => rfl]; rfl
  · intro k hk
    (try dsimp only)
    rw [if_pos (lt_dec hk), geti_lt' hk, Option.bind_some, Option.bind_some, if_neg (by simp), wr_succ h hk]
    rfl
  · (try dsimp only)
    rw [if_neg (by simp)]
theorem endDeeds_len {it : List HItem} {pr st : List Int} {cash : Int} {tb : List HTab} (hv : houseB it pr st cash tb = true) : (endDeeds tb).length ≤ 100 := by
  have h1 := kit_left (houseB_kit hv)
  have h2 := (houseB_tables hv).1
  unfold endDeeds
  simp; omega
theorem owedTo_range {pr : List Int} (h : ∀ x ∈ pr, 0 ≤ x ∧ x ≤ 20) (t : HTab) : ∀ k : Nat, 0 ≤ owedTo pr t k ∧ owedTo pr t k ≤ 20 * k
  | 0 => by unfold owedTo; omega
  | k + 1 => by
    have ih := owedTo_range h t k
    have hp : 0 ≤ priceAt pr t k ∧ priceAt pr t k ≤ 20 := by
      unfold priceAt
      split
      · exact getD_range h _
      · decide
    unfold owedTo
    split <;> omega
theorem oweds_range {it : List HItem} {pr : List Int} (h : ∀ x ∈ pr, 0 ≤ x ∧ x ≤ 20) : ∀ ts : List HTab, (∀ t ∈ ts, tableB it t = true) → 0 ≤ owedsOf pr ts ∧ owedsOf pr ts ≤ 120 * ts.length
  | [], _ => by simp [owedsOf]
  | t :: ts, ht => by
    have ih := oweds_range h ts fun u hu => ht u (by simp [hu])
    have h1 := tableB_true.1 (ht t (by simp))
    have h6 := ticket_len h1.2.1
    have h2 := owedTo_range h t t.2.2.length
    show 0 ≤ owedT pr t + owedsOf pr ts ∧ owedT pr t + owedsOf pr ts ≤ 120 * ((ts.length + 1 : Nat) : Int)
    unfold owedT
    omega
theorem oweds_take (pr : List Int) (tb : List HTab) {k : Nat} (hk : k < tb.length) : owedsOf pr (tb.take (k + 1)) = owedsOf pr (tb.take k) + owedT pr tb[k] := by
  rw [List.take_succ_eq_append_getElem hk, oweds_app]
  show _ + (owedT pr tb[k] + 0) = _
  omega
theorem pl_FnEndDeeds (x : List Int) (hw : ∀ n ∈ x, InK .u8 n) : laws_FnEndDeedsS x = some true := by
  unfold laws_FnEndDeedsS
  by_cases hl : (x.length : Int) > 1048576
  · rw [if_pos (by simp; omega)]
  rw [if_neg (by simp; omega)]
  obtain ⟨h, hd, hs⟩ : ∃ h, spec_DrawEndDeedsS x = some h ∧ SmallH 100 h := by
    unfold spec_DrawEndDeedsS
    refine Ret.bind (open_spec x (u8_of hw)) (fun r hr => ?_)
    exact Ret.bind (house_ret hr.1 (by omega) (by omega)) (fun h hh => Ret.pure hh.2.2)
  obtain ⟨it, pr, st, cash, tb⟩ := h
  obtain ⟨hL, -, -, -, htl⟩ := hs
  replace hL : HouseL it pr st tb := hL
  replace htl : tb.length ≤ 100 := htl
  rw [hd, Option.bind_some]
  dsimp only
  rw [implEnd_eq cash hL, Option.bind_some, specEnd_eq cash hL, Option.bind_some]
  cases hv : houseB it pr st cash tb with
  | false =>
    have he : endZ it pr st cash tb = [] := by unfold endZ; rw [if_neg (by rw [hv]; simp)]
    rw [he, sameDeedsE_self [] (by simp), Option.bind_some, if_neg (by simp), specHouse_eq cash hL, hv]; rfl
  | true =>
    have he : endZ it pr st cash tb = endDeeds tb := by unfold endZ; rw [if_pos hv]
    have hel := endDeeds_len hv
    rw [he, sameDeedsE_self _ (by omega), Option.bind_some, if_neg (by simp), specHouse_eq cash hL, hv, Option.bind_some, if_neg (by simp)]
    have hrun := implRun_eq (h := (it, pr, st, cash, tb)) hL (endDeeds tb) (by omega)
    dsimp only at hrun
    rw [hrun, Option.bind_some]
    have hp := (houseB_prices hv).2
    have hc := houseB_cash hv
    have htb := houseB_tables hv
    have hall := oweds_range hp tb htb.2
    rw [loopDet (s := (cash, (0 : Int))) (fun k => (cash + owedsOf pr (tb.take k), (k : Int))) tb.length (cash + owedsOf pr tb) (by simp [owedsOf])]
    · rw [Option.bind_some, Option.bind_some]
      by_cases hbig : cash + owedsOf pr tb > 99999
      · rw [if_pos (decide_eq_true hbig)]; rfl
      · rw [if_neg (by simpa using hbig)]
        have hend := end_run hv (by omega : cash + owedsOf pr tb ≤ 99999)
        have hg : goR (it, pr, st, cash, tb) (endDeeds tb) = ((it, pr, st, cash + owedsOf pr tb, []), ((endDeeds tb).length : Int)) := by
          unfold goR
          rw [if_pos (show hB (it, pr, st, cash, tb) = true from hv), hend]
        rw [hg]
        dsimp only
        rw [if_pos (by simp), sameInts_eq st st (by have := hL.2.2.1; omega)]
        simp
    · intro k hk
      have hkt := List.getElem_mem hk
      have h1 := tableB_true.1 (htb.2 _ hkt)
      have h6 := ticket_len h1.2.1
      have htk := oweds_range hp (tb.take k) (fun t ht => htb.2 t (List.mem_of_mem_take ht))
      have htkl : (tb.take k).length ≤ 4 := by have := htb.1; simp; omega
      (try dsimp only)
      rw [if_pos (lt_dec hk), loopDet (s := (cash + owedsOf pr (tb.take k), (0 : Int))) (fun j => (cash + owedsOf pr (tb.take k) + owedTo pr tb[k] j, (j : Int))) tb[k].2.2.length (cash + owedsOf pr (tb.take k) + owedTo pr tb[k] tb[k].2.2.length) (by simp [owedTo])]
      · rw [Option.bind_some]
        (try dsimp only)
        rw [wr_succ (n := tb.length) (by omega) hk, oweds_take pr tb hk]
        unfold owedT
        rw [Int.add_assoc]
      · intro j hj
        have hjd : j < tb[k].2.1.length := by rw [← h1.2.2.1]; exact hj
        obtain ⟨d, hdd, hdl⟩ := dish_lt hv hkt hj
        have hr := owedTo_range hp tb[k] (j + 1)
        have hpa : priceAt pr tb[k] j = pr.getD d 0 := by
          unfold priceAt; rw [List.getElem?_eq_getElem hj]; dsimp only; rw [hdd]; rfl
        have hstep : owedTo pr tb[k] (j + 1) = owedTo pr tb[k] j + (if tb[k].2.1[j].2 != 4 then priceAt pr tb[k] j else 0) := by
          show owedTo pr tb[k] j + (if stateAt tb[k] j != 4 then _ else 0) = _
          rw [stateAt_lt hjd]
        (try dsimp only)
        rw [geti_lt' hk, Option.bind_some, if_pos (lt_dec hj), Option.bind_some, geti_lt' hjd, Option.bind_some, wr_succ (n := tb[k].2.2.length) (by omega) hj, hstep]
        by_cases h4 : (tb[k].2.1[j].2 != 4) = true
        · rw [if_pos h4, if_pos h4, Option.bind_some, geti_lt' hj, Option.bind_some, hdd, geti_getD hdl, Option.bind_some, ← hpa]
          rw [if_pos h4] at hstep
          rw [wr (x := cash + owedsOf pr (tb.take k) + owedTo pr tb[k] j + priceAt pr tb[k] j) ⟨by omega, by omega⟩, Int.add_assoc]
        · rw [if_neg h4, if_neg h4, Int.add_zero]
      · (try dsimp only)
        rw [geti_lt' hk, Option.bind_some, if_neg (by simp)]
    · (try dsimp only)
      rw [if_neg (by simp), List.take_of_length_le (Nat.le_refl _)]
end Go.Proofs.YtpabogkcmbkffaaGreatDoor

