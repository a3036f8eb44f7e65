/- The laws of the shares. Own work; no program in sight. -/
import Derived.Test.YtohhaladggoglaaDoorShare
set_option linter.unusedVariables false
namespace Go.Proofs.YtohhaladggoglaaDoor
open Go Go.RowKit
theorem sm_ge_at {xs : List Int} (h : ∀ x ∈ xs, 0 ≤ x) {i : Nat} (hi : i < xs.length) : at0 xs i ≤ sm xs := by
  have key : ∀ (xs : List Int), (∀ x ∈ xs, 0 ≤ x) → 0 ≤ sm xs ∧ ∀ i, i < xs.length → at0 xs i ≤ sm xs := by
    intro xs
    induction xs with
    | nil => intro _; exact ⟨by simp [sm], fun i hi => by simp at hi⟩
    | cons x xs ih =>
      intro h
      obtain ⟨h1, h2⟩ := ih (fun y hy => h y (by simp [hy]))
      have hx := h x (by simp)
      refine ⟨by simp only [sm]; omega, fun i hi => ?_⟩
      cases i with
      | zero => have : at0 (x :: xs) 0 = x := rfl
                rw [this]; simp only [sm]; omega
      | succ i =>
        have := h2 i (by simpa using hi)
        have e : at0 (x :: xs) (i + 1) = at0 xs i := by simp [at0]
        rw [e]; simp only [sm]; omega
  exact (key xs h).2 i hi
structure PF (sh : List Int) (T S : Int) (xs : List Int) : Prop where
  len : xs.length = sh.length
  sum : sm xs = T
  bd : ∀ a, a < sh.length → 0 ≤ at0 xs a ∧ at0 xs a ≤ T
  near : ∀ a, a < sh.length → -S < at0 xs a * S - T * at0 sh a ∧ at0 xs a * S - T * at0 sh a < S
  zero : ∀ a, a < sh.length → at0 sh a = 0 → at0 xs a = 0
  mono : ∀ a b, a < sh.length → b < sh.length → at0 sh b < at0 sh a → at0 xs b ≤ at0 xs a
theorem parts_facts {sh : List Int} {T S : Int} {xs : List Int} (h : Sh sh T S) (hp : Parts sh T S xs) : PF sh T S xs := by
  obtain ⟨L, left, hL, hl1, hl2, rfl⟩ := hp
  have hS := h.pos
  have hsum : sm (ra sh.length (at0 sh)) = S := by rw [ra_self, h.s]
  have hLl := hL.length
  have htop : ∀ a, a ∈ L.take left → 0 < rr sh T S a := fun a ha => top_pos hS hsum hL hl1 ha
  have hlen : (ra sh.length (inc (quo T S (at0 sh)) L left)).length = sh.length := ra_length _ _
  have hs : sm (ra sh.length (inc (quo T S (at0 sh)) L left)) = T := by
    rw [inc_sum hL _ left (by omega), hl1]; omega
  have hnn : ∀ x ∈ ra sh.length (inc (quo T S (at0 sh)) L left), 0 ≤ x := fun x hx => by
    obtain ⟨i, hi, rfl⟩ := mem_at0 hx
    rw [ra_length] at hi
    rw [ra_at _ hi]; exact (inc_bd h L left hi).1
  refine ⟨hlen, hs, fun a ha => ?_, fun a ha => ?_, fun a ha h0 => ?_, fun a b ha hb hab => ?_⟩
  · refine ⟨hnn _ (at0_mem (by rw [hlen]; exact ha)), ?_⟩
    have := sm_ge_at hnn (i := a) (by rw [hlen]; exact ha)
    omega
  · rw [ra_at _ ha]
    have hq := quo_rest (T := T) (sh := at0 sh) hS a
    have hr := rest_lt (T := T) (sh := at0 sh) hS a
    unfold inc
    by_cases hm : a ∈ L.take left
    · have := htop a hm
      unfold rr at this
      rw [if_pos hm, Int.add_mul]; omega
    · rw [if_neg hm, Int.add_zero]; omega
  · rw [ra_at _ ha]
    have hq : quo T S (at0 sh) a = 0 := by unfold quo; rw [h0]; simp
    have hr : rr sh T S a = 0 := by unfold rr rest; rw [h0]; simp
    have hm : a ∉ L.take left := fun hm => by have := htop a hm; omega
    unfold inc
    rw [hq, if_neg hm]; rfl
  · rw [ra_at _ ha, ra_at _ hb]
    have hqa := quo_rest (T := T) (sh := at0 sh) hS a
    have hqb := quo_rest (T := T) (sh := at0 sh) hS b
    have hra := rest_lt (T := T) (sh := at0 sh) hS a
    have hrb := rest_lt (T := T) (sh := at0 sh) hS b
    have hT : T * at0 sh b + T ≤ T * at0 sh a := by
      have : T * (at0 sh b + 1) ≤ T * at0 sh a := Int.mul_le_mul_of_nonneg_left (by omega) h.t0
      rw [Int.mul_add] at this; omega
    have hle : quo T S (at0 sh) b ≤ quo T S (at0 sh) a := by
      unfold quo
      exact Int.ediv_le_ediv hS (by have := h.t0; omega)
    unfold inc
    by_cases hq : quo T S (at0 sh) b = quo T S (at0 sh) a
    · rw [hq] at hqb ⊢
      by_cases hT0 : T = 0
      · have hz : ∀ c, c ∉ L.take left := fun c hm => by
          have := htop c hm
          unfold rr rest at this
          rw [hT0] at this; simp at this
        rw [if_neg (hz a), if_neg (hz b)]; omega
      · have : rr sh T S b < rr sh T S a := by have := h.t0; unfold rr; omega
        by_cases hb2 : b ∈ L.take left
        · rw [if_pos hb2, if_pos (hL.prefix ha hb2 (.inl this))]; omega
        · rw [if_neg hb2]; split <;> omega
    · split <;> split <;> omega
theorem sum_ret {b : List Int} {p : Int} (hb : By b) (h0 : 0 ≤ p) (h1 : p ≤ 3000) : Ret (spec_l20SumS b p) (fun r => -1000000 ≤ r.2 ∧ r.2 ≤ 1000000) := by
  unfold spec_l20SumS
  refine Ret.bind (pick_ret hb h0 (by omega)) (fun x1 a1 => ?_)
  refine Ret.bind (pick_ret hb (by omega) (by omega)) (fun x2 a2 => ?_)
  refine Ret.bind (pick_ret hb (by omega) (by omega)) (fun x3 a3 => ?_)
  refine Ret.bind (pick_ret hb (by omega) (by omega)) (fun x4 a4 => ?_)
  have b1 := a1.2.2 (by omega)
  have b2 := a2.2.2 (by omega)
  have b3 := a3.2.2 (by omega)
  have b4 := a4.2.2 (by omega)
  have hm := mul_in (a := x1.2) (b := 1 + x2.2) (A := 256) (B := 30) ⟨by omega, by omega⟩ ⟨by omega, by omega⟩ (by omega)
  have e3 : Int.tdiv x3.2 39 = x3.2 / 39 := Int.tdiv_eq_ediv_of_nonneg a3.2.1
  have e4 : Int.tdiv x4.2 29 = x4.2 / 29 := Int.tdiv_eq_ediv_of_nonneg a4.2.1
  rw [e3, e4, wr (x := 1 + x2.2) ⟨by omega, by omega⟩, wr (x := x1.2 * (1 + x2.2)) ⟨by omega, by omega⟩, wr (x := x3.2 / 39) ⟨by omega, by omega⟩, wr (x := x4.2 / 29) ⟨by omega, by omega⟩, wr (x := x3.2 / 39 * 9000) ⟨by omega, by omega⟩, wr (x := x4.2 / 29 * 9999) ⟨by omega, by omega⟩, wr (x := x1.2 * (1 + x2.2) + x3.2 / 39 * 9000) ⟨by omega, by omega⟩, wr (x := x1.2 * (1 + x2.2) + x3.2 / 39 * 9000 - x4.2 / 29 * 9999) ⟨by omega, by omega⟩]
  exact Ret.pure ⟨by dsimp only; omega, by dsimp only; omega⟩
theorem drawShareOf (x : List Int) (hx : ∀ v ∈ x, 0 ≤ v ∧ v ≤ 255) : Ret (spec_DrawShareOfS x) (fun r => ShR r.1 ∧ -1000000 ≤ r.2 ∧ r.2 ≤ 1000000) := by
  unfold spec_DrawShareOfS
  refine Ret.bind (open_spec x hx) (fun r hr => ?_)
  refine Ret.bind (shares_ret hr.1 (by omega) (by omega)) (fun v hv => ?_)
  refine Ret.bind (sum_ret hr.1 (by omega) (by omega)) (fun u hu => Ret.pure ⟨hv.2.2, hu⟩)
theorem mulS_in {a S : Int} (h0 : 0 ≤ a) (h1 : a ≤ 9999) (hS0 : 0 < S) (hS : S ≤ 140) : 0 ≤ a * S ∧ a * S ≤ 1399860 := by
  have := mul_in (a := a) (b := S) (A := 9999) (B := 140) ⟨by omega, h1⟩ ⟨by omega, hS⟩ (by omega)
  exact ⟨Int.mul_nonneg h0 (by omega), by omega⟩
theorem pl_FnShareOf (x : List Int) (hw : ∀ n ∈ x, InK .u8 n) : laws_FnShareOfS x = some true := by
  unfold laws_FnShareOfS
  by_cases hl : (x.length : Int) > 1048576
  · rw [if_pos (by simp; omega)]
  rw [if_neg (by simp; omega)]
  obtain ⟨⟨sh, T⟩, hd, ⟨hs8, hsr⟩, hT0, hT1⟩ := drawShareOf x (u8_of hw)
  dsimp only at hs8 hsr hT0 hT1
  rw [hd, Option.bind_some]
  (try dsimp only)
  by_cases hok : SharesOk sh ∧ 0 ≤ T ∧ T ≤ 9999
  · obtain ⟨h1, h2, h3⟩ := hok
    have h : Sh sh T (sm sh) := ⟨h1, h2, h3, rfl⟩
    obtain ⟨xs, e1, e2, hp⟩ := share_both h
    have f := parts_facts h hp
    have hS := h.pos
    have hS140 := h.le
    have hlen := f.len
    rw [e1, Option.bind_some, e2, Option.bind_some, sameInts_eq _ _ (by omega), Option.bind_some, if_neg (by simp), specSharesValid_eq _ (by omega), Option.bind_some, decide_eq_true h1, if_neg (by simp; omega), lawsSum_eq (sbd_of h1.1.2 h1.2.1), Option.bind_some]
    rw [loopAll xs.length (fun _ => true)]
    · rw [Option.bind_some, if_pos (by simp)]
      (try dsimp only)
      have hbd : Bd xs := ⟨by omega, fun y hy => by
        obtain ⟨i, hi, rfl⟩ := mem_at0 hy
        have := f.bd i (by omega); omega⟩
      rw [lawsSum_eq hbd, Option.bind_some, f.sum]
      simp
    · intro a ha
      have ha' : a < sh.length := by omega
      have g1 := f.bd a ha'
      have g2 := f.near a ha'
      have g3 := h.mul ha'
      have g4 := mulS_in g1.1 (by omega) hS hS140
      rw [if_pos (by simp only [decide_eq_true_eq]; omega), geti_at0 ha, Option.bind_some, geti_at0 ha', Option.bind_some, wr (x := at0 xs a * sm sh) ⟨by omega, by omega⟩, wr (x := T * at0 sh a) ⟨by omega, by omega⟩, wr (x := at0 xs a * sm sh - T * at0 sh a) ⟨by omega, by omega⟩, wr (x := -sm sh) ⟨by omega, by omega⟩]
      rw [if_neg (by simp only [Bool.or_eq_true, decide_eq_true_eq]; omega), Option.bind_some]
      have hz : (if (at0 sh a == 0) = true then ((some (at0 xs a)).bind fun x74 => some (x74 != 0)) else some false) = some false := by
        by_cases h0 : at0 sh a = 0
        · rw [if_pos (by simp [h0]), f.zero a ha' h0]; rfl
        · rw [if_neg (by simp [h0])]
      rw [hz, Option.bind_some, Option.bind_some, if_neg (by simp)]
      rw [loopAll xs.length (fun _ => true)]
      · rw [Option.bind_some, if_pos (by simp), if_pos rfl]
        (try dsimp only)
        rw [wr_succ (n := xs.length) (by omega) ha]
      · intro b hb
        (try dsimp only)
        have hb' : b < sh.length := by omega
        rw [if_pos (by simp only [decide_eq_true_eq]; omega), Option.bind_some, geti_at0 hb', Option.bind_some, Option.bind_some, geti_at0 hb, Option.bind_some, wr_succ (n := xs.length) (by omega) hb]
        by_cases hgt : at0 sh a > at0 sh b
        · have := f.mono a b ha' hb' hgt
          rw [if_pos (by simpa using hgt), Option.bind_some, if_neg (by simp only [decide_eq_true_eq]; omega), if_pos rfl]
        · rw [if_neg (by simpa using hgt), Option.bind_some, if_neg (by simp), if_pos rfl]
      · (try dsimp only); rw [if_neg (by simp)]
    · rw [if_neg (by simp)]
  · obtain ⟨e1, e2⟩ := share_not (sh := sh) (T := T) (by omega) hok
    rw [e1, Option.bind_some, e2, Option.bind_some, sameInts_eq _ _ (by simp), Option.bind_some, if_neg (by simp), specSharesValid_eq _ (by omega), Option.bind_some, if_pos]
    · rfl
    · simp only [Bool.or_eq_true, Bool.not_eq_true', decide_eq_false_iff_not, decide_eq_true_eq]
      by_cases h1 : SharesOk sh
      · have : ¬ (0 ≤ T ∧ T ≤ 9999) := fun h2 => hok ⟨h1, h2.1, h2.2⟩
        omega
      · exact .inl (.inl h1)
/-! ### what somebody has paid, less the share -/
theorem copyInts_eq {xs : List Int} (h : xs.length ≤ 1000) : impl_copyIntsS xs = some xs := by
  unfold impl_copyIntsS
  by_cases h0 : xs.length = 0
  · rw [if_pos (by simp [h0])]
    rw [List.eq_nil_of_length_eq_zero h0]
  · rw [if_neg (by simpa using h0), mk0 (by omega) (by omega), Option.bind_some]
    simp
def PaidOk (sh pd : List Int) : Prop := SharesOk sh ∧ pd.length = sh.length ∧ (∀ x ∈ pd, 0 ≤ x ∧ x ≤ 9999) ∧ sm pd ≤ 9999
instance (sh pd : List Int) : Decidable (PaidOk sh pd) := inferInstanceAs (Decidable (_ ∧ _ ∧ _ ∧ _))
def less (pd xs : List Int) : List Int := ra pd.length (fun k => at0 pd k - at0 xs k)
theorem sm_nonneg : ∀ {xs : List Int}, (∀ x ∈ xs, 0 ≤ x) → 0 ≤ sm xs
  | [], _ => by simp [sm]
  | x :: xs, h => by have := sm_nonneg (xs := xs) (fun y hy => h y (by simp [hy])); have := h x (by simp); simp only [sm]; omega
theorem pbd {sh pd : List Int} (hl : pd.length ≤ 1000) (h : ∀ x ∈ pd, 0 ≤ x ∧ x ≤ 9999) : Bd pd := ⟨by omega, fun x hx => by have := h x hx; omega⟩
theorem PaidOk.sh {sh pd : List Int} (h : PaidOk sh pd) : Sh sh (sm pd) (sm sh) := ⟨h.1, sm_nonneg (fun x hx => (h.2.2.1 x hx).1), h.2.2.2, rfl⟩
theorem implOwedOf_ok {sh pd xs : List Int} (h : PaidOk sh pd) (e1 : impl_ShareOfS sh (sm pd) = some xs) (f : PF sh (sm pd) (sm sh) xs) : impl_OwedOfS sh pd = some (less pd xs) := by
  have hn := h.1.1
  have hpl := h.2.1
  have hB := pbd (sh := sh) (pd := pd) (by omega) h.2.2.1
  unfold impl_OwedOfS
  rw [implSharesValid_eq _ (by omega), Option.bind_some, decide_eq_true h.1, if_neg (by simp), amountsOk_eq _ _ _ (by omega), Option.bind_some, decide_eq_true ⟨by omega, h.2.2.1⟩, Option.bind_some, if_neg (by simp), implSum_eq hB, Option.bind_some, Option.bind_some, if_neg (by have := h.2.2.2; simp; omega), copyInts_eq (by omega), Option.bind_some, Option.bind_some, e1, Option.bind_some]
  rw [loopDet (fun k => ((k : Int), ra pd.length (fun j => if j < k then at0 pd j - at0 xs j else at0 pd j))) pd.length (less pd xs)]
  · rfl
  · simp only [Nat.not_lt_zero, if_false]; rw [← ra_of pd]; rfl
  · intro k hk
    (try dsimp only)
    have hlen := f.len
    have hx : k < xs.length := by omega
    have b1 := h.2.2.1 _ (at0_mem hk)
    have b2 := f.bd k (by omega)
    have b3 := h.2.2.2
    rw [if_pos (by simp only [decide_eq_true_eq]; omega), geti_at0 hx, Option.bind_some, ra_geti _ hk, Option.bind_some, Option.bind_some, if_neg (by omega), wr (x := at0 pd k - at0 xs k) ⟨by omega, by omega⟩, wr_succ (n := pd.length) (by omega) hk, ra_set]
    congr 3
    apply ra_ext
    intro j hj
    by_cases h1 : j = k
    · subst h1; rw [if_pos rfl, if_pos (by omega)]
    · rw [if_neg h1]
      by_cases h2 : j < k
      · rw [if_pos h2, if_pos (by omega)]
      · rw [if_neg h2, if_neg (by omega)]
  · (try dsimp only)
    have hlen := f.len
    rw [if_neg (by simp; omega)]
    congr 2
    apply ra_ext
    intro j hj
    rw [if_pos hj]
theorem specOwedOf_ok {sh pd xs : List Int} (h : PaidOk sh pd) (e1 : spec_ShareOfS sh (sm pd) = some xs) (f : PF sh (sm pd) (sm sh) xs) : spec_OwedOfS sh pd = some (less pd xs) := by
  have hn := h.1.1
  have hpl := h.2.1
  have hB := pbd (sh := sh) (pd := pd) (by omega) h.2.2.1
  unfold spec_OwedOfS
  rw [specSharesValid_eq _ (by omega), Option.bind_some, decide_eq_true h.1, if_neg (by simp [hpl])]
  rw [loopDet (fun k => (k : Int)) pd.length (.inl ())]
  · rw [Option.bind_some]
    (try dsimp only)
    rw [specSum_eq hB, Option.bind_some, e1, Option.bind_some]
    rw [loopDet (fun k => (ra k (fun k => at0 pd k - at0 xs k), (k : Int))) pd.length (less pd xs)]
    · rfl
    · rfl
    · intro k hk
      (try dsimp only)
      have hlen := f.len
      have hx : k < xs.length := by omega
      have b1 := h.2.2.1 _ (at0_mem hk)
      have b2 := f.bd k (by omega)
      have b3 := h.2.2.2
      rw [if_pos (by simp only [decide_eq_true_eq]; omega), geti_at0 hk, Option.bind_some, geti_at0 hx, Option.bind_some, wr (x := at0 pd k - at0 xs k) ⟨by omega, by omega⟩, appO_ok (by rw [ra_length]; simp; omega), Option.bind_some, wr_succ (n := pd.length) (by omega) hk, ra_succ]
    · (try dsimp only)
      have hlen := f.len
      rw [if_neg (by simp; omega)]; rfl
  · rfl
  · intro k hk
    (try dsimp only)
    have b1 := h.2.2.1 _ (at0_mem hk)
    rw [if_pos (by simp only [decide_eq_true_eq]; omega), geti_at0 hk, Option.bind_some, l1In_eq, Option.bind_some, decide_eq_true b1, wr_succ (n := pd.length) (by omega) hk]
    rfl
  · (try dsimp only); rw [if_neg (by simp)]
theorem owedOf_not {sh pd : List Int} (hl : sh.length ≤ 1000) (hp : pd.length ≤ 1000) (h : ¬ PaidOk sh pd) : impl_OwedOfS sh pd = some [] ∧ spec_OwedOfS sh pd = some [] := by
  by_cases h1 : SharesOk sh
  case neg =>
    constructor
    · unfold impl_OwedOfS
      rw [implSharesValid_eq _ (by omega), Option.bind_some, decide_eq_false h1, if_pos (by simp), Option.bind_some, if_pos rfl, Option.bind_some, if_pos rfl]
    · unfold spec_OwedOfS
      rw [specSharesValid_eq _ (by omega), Option.bind_some, decide_eq_false h1, if_pos (by simp)]
  by_cases h2 : pd.length = sh.length
  case neg =>
    constructor
    · unfold impl_OwedOfS
      rw [implSharesValid_eq _ (by omega), Option.bind_some, decide_eq_true h1, if_neg (by simp), amountsOk_eq _ _ _ (by omega), Option.bind_some, decide_eq_false (fun h => h2 (by omega)), Option.bind_some, if_pos (by simp), Option.bind_some, if_pos rfl]
    · unfold spec_OwedOfS
      rw [specSharesValid_eq _ (by omega), Option.bind_some, decide_eq_true h1, if_pos (by simp; omega)]
  have hn := h1.1
  by_cases h3 : ∀ x ∈ pd, 0 ≤ x ∧ x ≤ 9999
  case neg =>
    constructor
    · unfold impl_OwedOfS
      rw [implSharesValid_eq _ (by omega), Option.bind_some, decide_eq_true h1, if_neg (by simp), amountsOk_eq _ _ _ (by omega), Option.bind_some, decide_eq_false (fun h => h3 h.2), Option.bind_some, if_pos (by simp), Option.bind_some, if_pos rfl]
    · unfold spec_OwedOfS
      rw [specSharesValid_eq _ (by omega), Option.bind_some, decide_eq_true h1, if_neg (by simp [h2])]
      have hloop : Ret (loop (σ := Int) (ρ := (Unit) ⊕ ((List Int))) (fun (s : Int) => match s with | s11 => (if (decide (s11 < (List.length pd : Int))) then ((geti pd s11).bind fun x13 => ((spec_l1InS x13 0 9999).bind fun x22 => (if (!x22) then (some (.inr (.inr ([])))) else (some (.inl (IntKind.wrap .i64 (s11 + 1))))))) else (some (.inr (.inl ()))))) 0) (fun r => r = .inr []) := by
        refine Ret.loop (fun s => ∃ k : Nat, s = (k : Int) ∧ k ≤ pd.length ∧ ∀ i, i < k → 0 ≤ at0 pd i ∧ at0 pd i ≤ 9999) (fun s => pd.length - s.toNat) ⟨0, rfl, by omega, fun i hi => by omega⟩ ?_
        rintro s ⟨k, rfl, hk, ha⟩
        (try dsimp only)
        by_cases hk2 : k < pd.length
        · rw [if_pos (by simp only [decide_eq_true_eq]; omega), geti_at0 hk2, Option.bind_some, l1In_eq, Option.bind_some, wr_succ (n := pd.length) (by omega) hk2]
          by_cases hb : 0 ≤ at0 pd k ∧ at0 pd k ≤ 9999
          · rw [decide_eq_true hb]
            refine Ret.pure ⟨⟨k + 1, rfl, by omega, fun i hi => ?_⟩, by simp; omega⟩
            rcases Nat.lt_or_ge i k with h5 | h5
            · exact ha i h5
            · have : i = k := by omega
              subst this; exact hb
          · rw [decide_eq_false hb]; exact Ret.pure rfl
        · exfalso
          exact h3 (fun x hx => by obtain ⟨i, hi, rfl⟩ := mem_at0 hx; exact ha i (by omega))
      obtain ⟨r, hr, rfl⟩ := hloop
      rw [hr]; rfl
  have h4 : ¬ sm pd ≤ 9999 := fun h4 => h ⟨h1, h2, h3, h4⟩
  have hB := pbd (sh := sh) (pd := pd) hp h3
  constructor
  · unfold impl_OwedOfS
    rw [implSharesValid_eq _ (by omega), Option.bind_some, decide_eq_true h1, if_neg (by simp), amountsOk_eq _ _ _ (by omega), Option.bind_some, decide_eq_true ⟨by omega, h3⟩, Option.bind_some, if_neg (by simp), implSum_eq hB, Option.bind_some, Option.bind_some, if_pos (by simp; omega)]
  · unfold spec_OwedOfS
    rw [specSharesValid_eq _ (by omega), Option.bind_some, decide_eq_true h1, if_neg (by simp [h2])]
    rw [loopDet (fun k => (k : Int)) pd.length (.inl ())]
    · rw [Option.bind_some]
      (try dsimp only)
      rw [specSum_eq hB, Option.bind_some, (share_not hl (fun h5 => h4 h5.2.2)).2, Option.bind_some]
      rw [loopDet (fun _ => (([] : List Int), (0 : Int))) 0 [] rfl (fun k hk => by omega) (by simp)]
      rfl
    · rfl
    · intro k hk
      (try dsimp only)
      have b1 := h3 _ (at0_mem hk)
      rw [if_pos (by simp only [decide_eq_true_eq]; omega), geti_at0 hk, Option.bind_some, l1In_eq, Option.bind_some, decide_eq_true b1, wr_succ (n := pd.length) (by omega) hk]
      rfl
    · (try dsimp only); rw [if_neg (by simp)]
theorem drawOwedOf (x : List Int) (hx : ∀ v ∈ x, 0 ≤ v ∧ v ≤ 255) : Ret (spec_DrawOwedOfS x) (fun r => r.1.length ≤ 8 ∧ r.2.length ≤ 9) := by
  unfold spec_DrawOwedOfS
  refine Ret.bind (open_spec x hx) (fun r hr => ?_)
  refine Ret.bind (shares_ret hr.1 (by omega) (by omega)) (fun x8 h8 => ?_)
  have hl8 := h8.2.2.1
  refine Ret.loopb (fun s => ∃ k : Nat, s.2.1 = (k : Int) ∧ k ≤ x8.2.length ∧ s.1.length = k ∧ 0 ≤ s.2.2 ∧ s.2.2 ≤ 2000 + 4 * k) (fun s => x8.2.length - s.2.1.toNat) (fun r => r.1.length ≤ 8 ∧ 0 ≤ r.2 ∧ r.2 ≤ 3000) ⟨0, rfl, by omega, rfl, by dsimp only; omega, by dsimp only; omega⟩ ?_ ?_
  · rintro ⟨s19, s20, s21⟩ ⟨k, e1, h1, h2, h3, h4⟩
    dsimp only at e1 h1 h2 h3 h4 ⊢
    subst e1
    by_cases hk : k < x8.2.length
    · rw [if_pos (by simp only [decide_eq_true_eq]; omega)]
      refine Ret.bind (pick_ret hr.1 h3 (by omega)) (fun y1 a1 => ?_)
      refine Ret.bind (pick_ret hr.1 (by omega) (by omega)) (fun y2 a2 => ?_)
      refine Ret.bind (pick_ret hr.1 (by omega) (by omega)) (fun y3 a3 => ?_)
      refine Ret.bind (pick_ret hr.1 (by omega) (by omega)) (fun y4 a4 => ?_)
      rw [Option.bind_some, appO_ok (by simp; omega), Option.bind_some, wr_succ (n := x8.2.length) (by omega) hk]
      refine Ret.pure ⟨⟨k + 1, rfl, by omega, by simp; omega, by dsimp only; omega, by dsimp only; omega⟩, by dsimp only; omega⟩
    · rw [if_neg (by simp only [decide_eq_true_eq]; omega)]
      exact Ret.pure ⟨by dsimp only; omega, h3, by dsimp only; omega⟩
  · rintro ⟨p56, p57⟩ ⟨h1, h2, h3⟩
    dsimp only at h1 h2 h3 ⊢
    refine Ret.bind (odd_ret hr.1 h2 (by omega)) (fun z hz => ?_)
    refine Ret.bind (Q := fun j => j.length ≤ 9) ?_ (fun j hj => Ret.pure ⟨h8.2.2.1, hj⟩)
    refine Ret.ite (fun h => ?_) (fun h => Ret.pure (by omega))
    rw [appO_ok (by simp; omega), Option.bind_some]
    exact Ret.pure (by simp; omega)
theorem sm_less {pd xs : List Int} (h : pd.length = xs.length) : sm (less pd xs) = sm pd - sm xs := by
  unfold less
  have h1 := sm_ra_lin pd.length (at0 xs) (fun k => at0 pd k - at0 xs k) 1
  rw [ra_ext (f := fun k => at0 xs k * 1 + (at0 pd k - at0 xs k)) (g := at0 pd) (fun k _ => by omega), ← ra_of pd] at h1
  have h2 := ra_of xs
  rw [← h] at h2
  rw [← h2] at h1
  omega
theorem pl_FnOwedOf (x : List Int) (hw : ∀ n ∈ x, InK .u8 n) : laws_FnOwedOfS x = some true := by
  unfold laws_FnOwedOfS
  by_cases hl : (x.length : Int) > 1048576
  · rw [if_pos (by simp; omega)]
  rw [if_neg (by simp; omega)]
  obtain ⟨⟨sh, pd⟩, hd, hs8, hp9⟩ := drawOwedOf x (u8_of hw)
  dsimp only at hs8 hp9
  rw [hd, Option.bind_some]
  (try dsimp only)
  by_cases hok : PaidOk sh pd
  · obtain ⟨xs, e1, e2, hp⟩ := share_both hok.sh
    have f := parts_facts hok.sh hp
    have hlen := f.len
    have hpl := hok.2.1
    have hn := hok.1.1
    have hxx : PaidOk sh xs := ⟨hok.1, f.len, fun y hy => by
      obtain ⟨i, hi, rfl⟩ := mem_at0 hy
      have := f.bd i (by omega); have := hok.2.2.2; omega, by rw [f.sum]; exact hok.2.2.2⟩
    have e3 : impl_ShareOfS sh (sm xs) = some xs := by rw [f.sum]; exact e1
    have f3 : PF sh (sm xs) (sm sh) xs := by rw [f.sum]; exact f
    have hll : (less pd xs).length = pd.length := ra_length _ _
    have hlx : (less xs xs).length = xs.length := ra_length _ _
    rw [implOwedOf_ok hok e1 f, Option.bind_some, specOwedOf_ok hok e2 f, Option.bind_some, sameInts_eq _ _ (by omega), Option.bind_some, if_neg (by simp), if_neg (by simp only [beq_iff_eq]; omega), lawsSum_eq (pbd (sh := sh) (by omega) hok.2.2.1), Option.bind_some, e1, Option.bind_some, implOwedOf_ok hxx e3 f3, Option.bind_some]
    rw [loopAll (less xs xs).length (fun _ => true)]
    · rw [Option.bind_some, if_pos (by simp)]
      (try dsimp only)
      have hov : OwedOk (less pd xs) := by
        refine ⟨by omega, fun y hy => ?_, by rw [sm_less (by omega), f.sum]; omega⟩
        obtain ⟨i, hi, rfl⟩ := mem_at0 hy
        rw [hll] at hi
        unfold less
        rw [ra_at _ hi]
        have b1 := hok.2.2.1 _ (at0_mem hi)
        have b2 := f.bd i (by omega)
        have b3 := hok.2.2.2
        omega
      rw [implOwedValid_eq, Option.bind_some, decide_eq_true hov]
      simp; omega
    · intro k hk
      have hk' : k < xs.length := by omega
      rw [if_pos (by simp only [decide_eq_true_eq]; omega), geti_at0 hk, Option.bind_some, wr_succ (n := (less xs xs).length) (by omega) hk]
      have : at0 (less xs xs) k = 0 := by unfold less; rw [ra_at _ hk']; omega
      rw [this]; rfl
    · rw [if_neg (by simp)]
  · obtain ⟨e1, e2⟩ := owedOf_not (by omega) (by omega) hok
    rw [e1, Option.bind_some, e2, Option.bind_some, sameInts_eq _ _ (by simp), Option.bind_some, if_neg (by simp), if_pos (by simp)]
    rfl
end Go.Proofs.YtohhaladggoglaaDoor
