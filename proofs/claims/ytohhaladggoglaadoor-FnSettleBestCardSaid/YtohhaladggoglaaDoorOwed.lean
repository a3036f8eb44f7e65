/- Sums, what is owed, shares: the functions in plain words; their draws. Own work; no program in sight. -/
import Derived.Test.YtohhaladggoglaaDoorDraw
import Derived.Test.YtohhaladggoglaaDoorPay
set_option linter.unusedVariables false
namespace Go.Proofs.YtohhaladggoglaaDoor
open Go Go.RowKit
theorem geti_at0 {xs : List Int} {k : Nat} (h : k < xs.length) : geti xs (k : Int) = some (at0 xs k) := by
  rw [geti_lt' h]; unfold at0; rw [List.getD_eq_getElem?_getD, List.getElem?_eq_getElem h]; rfl
theorem at0_take {xs : List Int} {k : Nat} (h : k < xs.length) : xs.take (k + 1) = xs.take k ++ [at0 xs k] := by
  rw [List.take_succ_eq_append_getElem h]; unfold at0; rw [List.getD_eq_getElem?_getD, List.getElem?_eq_getElem h]; rfl
theorem sm_take {xs : List Int} {k : Nat} (h : k < xs.length) : sm (xs.take (k + 1)) = sm (xs.take k) + at0 xs k := by
  rw [at0_take h, sm_append]; simp [sm]
/-- a row whose sum has room -/
def Bd (xs : List Int) : Prop := xs.length ≤ 1048576 ∧ ∀ x ∈ xs, -1000000000 ≤ x ∧ x ≤ 1000000000
theorem Bd.take {xs : List Int} (h : Bd xs) : ∀ k : Nat, -(k * 1000000000 : Int) ≤ sm (xs.take k) ∧ sm (xs.take k) ≤ k * 1000000000
  | 0 => by simp [sm]
  | k + 1 => by
    have ih := h.take k
    rcases Nat.lt_or_ge k xs.length with h1 | h1
    · rw [sm_take h1]
      have := h.2 _ (at0_mem h1)
      omega
    · rw [List.take_of_length_le (by omega)]
      rw [List.take_of_length_le h1] at ih
      omega
theorem Bd.sm {xs : List Int} (h : Bd xs) : -(xs.length * 1000000000 : Int) ≤ sm xs ∧ sm xs ≤ xs.length * 1000000000 := by
  have := h.take xs.length
  rwa [List.take_length] at this
theorem sumLoop {xs : List Int} (h : Bd xs) : (loop (σ := Int × Int) (ρ := (Int)) (fun (s : Int × Int) => match s with | (s1, s2) => (if (decide (s2 < (List.length xs : Int))) then ((geti xs s2).bind fun x4 => (some (.inl (IntKind.wrap .i64 (s1 + x4), IntKind.wrap .i64 (s2 + 1))))) else (some (.inr s1)))) (0, 0)) = some (Proofs.YtohhaladggoglaaDoor.sm xs) := by
  have hl := h.1
  refine loopDet (fun k => (Proofs.YtohhaladggoglaaDoor.sm (xs.take k), (k : Int))) xs.length _ (by simp [Proofs.YtohhaladggoglaaDoor.sm]) (fun k hk => ?_) ?_
  · dsimp only
    have h1 := h.take (k + 1)
    rw [sm_take hk] at h1 ⊢
    rw [if_pos (by simp only [decide_eq_true_eq]; omega), geti_at0 hk, Option.bind_some, wr_succ (n := xs.length) (by omega) hk, wr ⟨by omega, by omega⟩]
  · dsimp only
    rw [if_neg (by simp), List.take_length]
theorem implSum_eq {xs : List Int} (h : Bd xs) : impl_sumOfS xs = some (sm xs) := by unfold impl_sumOfS; rw [sumLoop h]; rfl
theorem specSum_eq {xs : List Int} (h : Bd xs) : spec_l1SumS xs = some (sm xs) := by unfold spec_l1SumS; rw [sumLoop h]; rfl
theorem lawsSum_eq {xs : List Int} (h : Bd xs) : laws_sumOfS xs = some (sm xs) := by unfold laws_sumOfS; rw [sumLoop h]; rfl
theorem all_at0 (xs : List Int) (P : Int → Prop) [DecidablePred P] : (List.range xs.length).all (fun k => decide (P (at0 xs k))) = decide (∀ x ∈ xs, P x) := by
  rw [Bool.eq_iff_iff, List.all_eq_true, decide_eq_true_eq]
  constructor
  · intro h x hx
    obtain ⟨i, hi, rfl⟩ := mem_at0 hx
    exact of_decide_eq_true (h i (List.mem_range.2 hi))
  · intro h i hi
    exact decide_eq_true (h _ (at0_mem (List.mem_range.1 hi)))
/-! ### what is owed -/
def OwedOk (xs : List Int) : Prop := xs.length ≤ 7 ∧ (∀ x ∈ xs, -9999 ≤ x ∧ x ≤ 9999) ∧ sm xs = 0
instance (xs : List Int) : Decidable (OwedOk xs) := inferInstanceAs (Decidable (_ ∧ _ ∧ _))
theorem OwedOk.bd {xs : List Int} (h : OwedOk xs) : Bd xs := ⟨by have := h.1; omega, fun x hx => by have := h.2.1 x hx; omega⟩
theorem bd_of {xs : List Int} (hl : xs.length ≤ 7) (h : ∀ x ∈ xs, -9999 ≤ x ∧ x ≤ 9999) : Bd xs := ⟨by omega, fun x hx => by have := h x hx; omega⟩
theorem implOwedValid_eq (xs : List Int) : impl_OwedValidS xs = some (decide (OwedOk xs)) := by
  unfold impl_OwedValidS
  by_cases hl : (xs.length : Int) > 7
  · rw [if_pos (by simpa using hl), decide_eq_false (show ¬ OwedOk xs from fun h => by have := h.1; omega)]
  · rw [if_neg (by simpa using hl)]
    rw [loopAll xs.length (fun k => decide (-9999 ≤ at0 xs k ∧ at0 xs k ≤ 9999))]
    · rw [Option.bind_some, all_at0 xs (fun x => -9999 ≤ x ∧ x ≤ 9999)]
      by_cases ha : ∀ x ∈ xs, -9999 ≤ x ∧ x ≤ 9999
      · rw [if_pos (decide_eq_true ha)]
        dsimp only
        rw [implSum_eq (bd_of (by omega) ha), Option.bind_some]
        congr 1
        rw [Bool.eq_iff_iff, decide_eq_true_eq, beq_iff_eq]
        exact ⟨fun h => ⟨by omega, ha, h⟩, fun h => h.2.2⟩
      · rw [if_neg (by simpa using ha), decide_eq_false (show ¬ OwedOk xs from fun h => ha h.2.1)]
    · intro k hk
      dsimp only
      rw [if_pos (by simp only [decide_eq_true_eq]; omega), geti_at0 hk, Option.bind_some, wr_succ (n := xs.length) (by omega) hk]
      by_cases h : -9999 ≤ at0 xs k ∧ at0 xs k ≤ 9999
      · rw [if_neg (by simp only [Bool.or_eq_true, decide_eq_true_eq]; omega), if_pos (decide_eq_true h)]
      · rw [if_pos (by simp only [Bool.or_eq_true, decide_eq_true_eq]; omega), if_neg (by simpa using h)]
    · dsimp only; rw [if_neg (by simp)]
theorem specOwedValid_eq (xs : List Int) (hl : xs.length ≤ 4611686018427387904) : spec_OwedValidS xs = some (decide (OwedOk xs)) := by
  unfold spec_OwedValidS
  rw [loopAll xs.length (fun k => decide (-9999 ≤ at0 xs k ∧ at0 xs k ≤ 9999))]
  · rw [Option.bind_some, all_at0 xs (fun x => -9999 ≤ x ∧ x ≤ 9999)]
    by_cases ha : ∀ x ∈ xs, -9999 ≤ x ∧ x ≤ 9999
    · rw [if_pos (decide_eq_true ha)]
      dsimp only
      by_cases h7 : xs.length ≤ 7
      · rw [if_pos (by simp only [decide_eq_true_eq]; omega), specSum_eq (bd_of h7 ha), Option.bind_some, Option.bind_some]
        congr 1
        rw [Bool.eq_iff_iff, decide_eq_true_eq, beq_iff_eq]
        exact ⟨fun h => ⟨by omega, ha, h⟩, fun h => h.2.2⟩
      · rw [if_neg (by simp only [decide_eq_true_eq]; omega), decide_eq_false (show ¬ OwedOk xs from fun h => h7 h.1)]; rfl
    · rw [if_neg (by simpa using ha), decide_eq_false (show ¬ OwedOk xs from fun h => ha h.2.1)]
  · intro k hk
    dsimp only
    rw [if_pos (by simp only [decide_eq_true_eq]; omega), geti_at0 hk, Option.bind_some, l1In_eq, Option.bind_some, wr_succ (n := xs.length) (by omega) hk]
    by_cases h : -9999 ≤ at0 xs k ∧ at0 xs k ≤ 9999
    · rw [decide_eq_true h]; rfl
    · rw [decide_eq_false h]; rfl
  · dsimp only; rw [if_neg (by simp)]
theorem sm_neg : ∀ xs : List Int, sm (xs.map (- ·)) = - sm xs
  | [] => rfl
  | x :: xs => by simp only [List.map_cons, sm, sm_neg xs]; omega
theorem owedOk_neg (xs : List Int) : OwedOk (xs.map (- ·)) ↔ OwedOk xs := by
  unfold OwedOk
  rw [sm_neg, List.length_map]
  constructor
  · rintro ⟨h1, h2, h3⟩
    exact ⟨h1, fun x hx => by have := h2 (-x) (List.mem_map_of_mem hx); omega, by omega⟩
  · rintro ⟨h1, h2, h3⟩
    refine ⟨h1, fun x hx => ?_, by omega⟩
    obtain ⟨y, hy, rfl⟩ := List.mem_map.1 hx
    have := h2 y hy; omega
/-! ### draws -/
def OwR (xs : List Int) : Prop := xs.length ≤ 8 ∧ ∀ x ∈ xs, -20000 ≤ x ∧ x ≤ 20000
theorem OwR.bd {xs : List Int} (h : OwR xs) : Bd xs := ⟨by have := h.1; omega, fun x hx => by have := h.2 x hx; omega⟩
theorem appO_ok {α : Type} {xs ys : List α} (h : xs.length + ys.length ≤ 1000000) : appO xs ys = some (xs ++ ys) := by
  unfold appO room; rw [if_pos (by simp; omega)]
def Rg (B : Int) (xs : List Int) : Prop := ∀ x ∈ xs, -B ≤ x ∧ x ≤ B
theorem Rg.mono {A B : Int} {xs : List Int} (h : Rg A xs) (hab : A ≤ B) : Rg B xs := fun x hx => by have := h x hx; omega
theorem Rg.append {B : Int} {xs ys : List Int} (h : Rg B xs) (k : Rg B ys) : Rg B (xs ++ ys) := fun x hx => by
  rcases List.mem_append.1 hx with hx | hx
  · exact h x hx
  · exact k x hx
theorem Rg.one {B x : Int} (h : -B ≤ x ∧ x ≤ B) : Rg B [x] := fun y hy => by simp at hy; subst hy; exact h
theorem Rg.set {B : Int} {xs : List Int} (h : Rg B xs) (i : Nat) {v : Int} (hv : -B ≤ v ∧ v ≤ B) : Rg B (xs.set i v) := fun x hx => by
  rcases List.mem_or_eq_of_mem_set hx with hx | rfl
  · exact h x hx
  · exact hv
theorem Rg.at {B : Int} {xs : List Int} (h : Rg B xs) {i : Nat} (hi : i < xs.length) : -B ≤ at0 xs i ∧ at0 xs i ≤ B := h _ (at0_mem hi)
theorem Rg.sm {B : Int} {xs : List Int} (hB : 0 ≤ B) (h : Rg B xs) : -(xs.length * B) ≤ Proofs.YtohhaladggoglaaDoor.sm xs ∧ Proofs.YtohhaladggoglaaDoor.sm xs ≤ xs.length * B := by
  induction xs with
  | nil => simp [Proofs.YtohhaladggoglaaDoor.sm]
  | cons x xs ih =>
    have h1 := ih (fun y hy => h y (by simp [hy]))
    have h2 := h x (by simp)
    simp only [Proofs.YtohhaladggoglaaDoor.sm, List.length_cons]
    have e : ((xs.length + 1 : Nat) : Int) * B = xs.length * B + B := by rw [Int.natCast_succ, Int.add_mul]; omega
    rw [e]; omega
theorem Rg.bd {B : Int} {xs : List Int} (h : Rg B xs) (hB : B ≤ 1000000000) (hl : xs.length ≤ 1048576) : Bd xs := ⟨hl, fun x hx => by have := h x hx; omega⟩
theorem mul_in {a b A B : Int} (ha : -A ≤ a ∧ a ≤ A) (hb : 0 ≤ b ∧ b ≤ B) (hA : 0 ≤ A) : -(A * B) ≤ a * b ∧ a * b ≤ A * B := by
  have h1 : a * b ≤ A * b := Int.mul_le_mul_of_nonneg_right ha.2 hb.1
  have h2 : A * b ≤ A * B := Int.mul_le_mul_of_nonneg_left hb.2 hA
  have h3 : -A * b ≤ a * b := Int.mul_le_mul_of_nonneg_right ha.1 hb.1
  have h4 : -A * b = -(A * b) := Int.neg_mul A b
  omega
theorem owed_ret {b : List Int} {p n : Int} (hb : By b) (h0 : 0 ≤ p) (h1 : p ≤ 1000) : Ret (spec_l20OwedS b p n) (fun r => 0 ≤ r.1 ∧ r.1 ≤ 2000 ∧ OwR r.2) := by
  unfold spec_l20OwedS
  refine Ret.bind (pick_ret hb h0 (by omega)) (fun x5 h5 => ?_)
  have h52 := h5.2.2 (by omega)
  refine Ret.loopb (fun s => s.1.length + s.2.1.toNat ≤ 6 ∧ 0 ≤ s.2.1 ∧ 0 ≤ s.2.2 ∧ s.2.2 + 2 * s.2.1 ≤ 1100 ∧ Rg 12 s.1) (fun s => s.2.1.toNat) (fun r => r.1.length ≤ 6 ∧ 0 ≤ r.2 ∧ r.2 ≤ 1100 ∧ Rg 12 r.1) ?_ ?_ ?_
  · dsimp only; exact ⟨by simp; omega, by omega, by omega, by omega, (fun x hx => by cases hx)⟩
  · rintro ⟨s11, s12, s13⟩ ⟨i1, i2, i3, i4, i5⟩
    dsimp only at i1 i2 i3 i4 i5 ⊢
    refine Ret.ite (fun h => ?_) (fun h => ?_)
    · have hp : s12 > 0 := of_decide_eq_true h
      refine Ret.bind (pick_ret hb i3 (by omega)) (fun x15 h15 => ?_)
      refine Ret.bind (pick_ret hb (by omega) (by omega)) (fun x20 h20 => ?_)
      have q1 := h15.2.2 (by omega)
      have q2 := h20.2.2 (by omega)
      rw [wr (x := x15.2 - 4) ⟨by omega, by omega⟩, wr (x := 1 + x20.2) ⟨by omega, by omega⟩]
      have hm := mul_in (a := x15.2 - 4) (b := 1 + x20.2) (A := 4) (B := 3) ⟨by omega, by omega⟩ ⟨by omega, by omega⟩ (by omega)
      rw [wr (x := (x15.2 - 4) * (1 + x20.2)) ⟨by omega, by omega⟩, wr (x := s12 - 1) ⟨by omega, by omega⟩, appO_ok (by simp; omega), Option.bind_some]
      refine Ret.pure ⟨⟨by simp; omega, by dsimp only; omega, by dsimp only; omega, by dsimp only; omega, i5.append (Rg.one (by omega))⟩, by dsimp only; omega⟩
    · have : ¬ s12 > 0 := of_decide_eq_false h
      exact Ret.pure ⟨by dsimp only; omega, i3, by dsimp only; omega, i5⟩
  · rintro ⟨p36, p37⟩ ⟨i1, i2, i3, i4⟩
    dsimp only at i1 i2 i3 i4 ⊢
    refine Ret.bind (Q := fun j => j.length ≤ 7 ∧ Rg 72 j) ?_ (fun j38 h38 => ?_)
    · refine Ret.ite (fun h => ?_) (fun h => ?_)
      · rw [specSum_eq (i4.bd (by omega) (by omega)), Option.bind_some]
        have hs := i4.sm (by omega)
        rw [wr (x := -sm p36) ⟨by omega, by omega⟩, appO_ok (by simp; omega), Option.bind_some]
        exact Ret.pure ⟨by simp; omega, (i4.mono (by omega)).append (Rg.one (by omega))⟩
      · exact Ret.pure ⟨by omega, i4.mono (by omega)⟩
    · refine Ret.bind (pick_ret hb i2 (by omega)) (fun x39 h39 => ?_)
      refine Ret.bind (Q := fun j => j.length ≤ 7 ∧ Rg 1000 j) ?_ (fun j44 h44 => ?_)
      · refine Ret.ite (fun h => ?_) (fun h => ?_)
        · have hl : 3 < j38.length := by
            simp only [Bool.and_eq_true, decide_eq_true_eq] at h; omega
          have hr := h38.2
          rw [show (0 : Int) = ((0 : Nat) : Int) from rfl, geti_at0 (by omega), Option.bind_some, show (1 : Int) = ((1 : Nat) : Int) from rfl, geti_at0 (by omega), Option.bind_some]
          have a0 := hr.at (i := 0) (by omega)
          have a1 := hr.at (i := 1) (by omega)
          rw [wr (x := -at0 j38 0) ⟨by omega, by omega⟩, show Int.toNat ((1 : Nat) : Int) = 1 from rfl]
          have hr2 : Rg 72 (j38.set 1 (-at0 j38 0)) := hr.set 1 (by omega)
          have hl2 : (j38.set 1 (-at0 j38 0)).length = j38.length := by simp
          have a2 := hr2.at (i := 2) (by omega)
          have hs := hr2.sm (by omega)
          rw [show (2 : Int) = ((2 : Nat) : Int) from rfl, geti_at0 (by omega), Option.bind_some, specSum_eq (hr2.bd (by omega) (by omega)), Option.bind_some, Option.bind_some]
          rw [wr (x := at0 (j38.set 1 (-at0 j38 0)) 2 - sm (j38.set 1 (-at0 j38 0))) ⟨by omega, by omega⟩]
          refine Ret.pure ⟨by simp; omega, (hr2.mono (by omega)).set _ ?_⟩
          omega
        · exact Ret.pure ⟨h38.1, h38.2.mono (by omega)⟩
      · refine Ret.bind (odd_ret hb (by omega) (by omega)) (fun x45 h45 => ?_)
        refine Ret.ite (fun h => ?_) (fun h => ?_)
        · refine Ret.bind (pick_ret hb (by omega) (by omega)) (fun x55 h55 => ?_)
          have q := h55.2.2 (by omega)
          have hg : Ret (geti ([1, 10000, (-3)] : List Int) x55.2) (fun v => v ∈ ([1, 10000, (-3)] : List Int)) := geti_ret h55.2.1 (by simp; omega)
          refine Ret.bind hg (fun x61 h61 => ?_)
          rw [appO_ok (by simp; omega), Option.bind_some]
          refine Ret.pure ⟨by dsimp only; omega, by dsimp only; omega, by simp; omega, ((h44.2.mono (by omega)).append (Rg.one ?_))⟩
          simp at h61; omega
        · exact Ret.pure ⟨by dsimp only; omega, by dsimp only; omega, by dsimp only; omega, h44.2.mono (by omega)⟩
theorem drawOwed {f : List Int → Option (List Int)} {n : Int} (hf : ∀ x, f x = ((spec_l20OpenS x).bind fun x1 => ((spec_l20OwedS x1.1 x1.2 n).bind fun x8 => (some x8.2)))) (x : List Int) (hx : ∀ v ∈ x, 0 ≤ v ∧ v ≤ 255) : ∃ xs, f x = some xs ∧ OwR xs := by
  rw [hf]
  refine Ret.bind (open_spec x hx) (fun r hr => ?_)
  refine Ret.bind (owed_ret hr.1 (by omega) (by omega)) (fun v hv => ?_)
  exact Ret.pure hv.2.2
theorem pl_FnOwedValid (x : List Int) (hw : ∀ n ∈ x, InK .u8 n) : laws_FnOwedValidS x = some true := by
  unfold laws_FnOwedValidS
  by_cases hl : (x.length : Int) > 1048576
  · rw [if_pos (by simp; omega)]
  rw [if_neg (by simp; omega)]
  obtain ⟨xs, hd, hr⟩ := drawOwed (f := spec_DrawOwedValidS) (fun x => rfl) x (u8_of hw)
  have hl8 := hr.1
  rw [hd, Option.bind_some, implOwedValid_eq, Option.bind_some, specOwedValid_eq _ (by omega), Option.bind_some, if_neg (by simp)]
  rw [loopDet (fun k => ((xs.take k).map (- ·), (k : Int))) xs.length (xs.map (- ·))]
  · rw [Option.bind_some, appO_ok (by simp; omega), Option.bind_some, List.nil_append]
    rw [implOwedValid_eq]
    have hneg : decide (OwedOk (xs.map (- ·))) = decide (OwedOk xs) := by rw [Bool.eq_iff_iff, decide_eq_true_eq, decide_eq_true_eq]; exact owedOk_neg xs
    cases xs with
    | nil => rfl
    | cons y ys =>
      have hy := hr.2 y (by simp)
      rw [if_pos (by simp)]
      have e0 : geti (y :: ys) 0 = some y := rfl
      rw [e0, Option.bind_some, Option.bind_some, Option.bind_some, Option.bind_some, hneg, if_pos (by simp)]
      rw [wr (x := y + 1) ⟨by omega, by omega⟩, show List.set (y :: ys) (Int.toNat 0) (y + 1) = (y + 1) :: ys from rfl, implOwedValid_eq]
      by_cases ho : OwedOk (y :: ys)
      · have hno : ¬ OwedOk ((y + 1) :: ys) := fun h => by
          have a := ho.2.2
          have b := h.2.2
          simp only [sm] at a b
          omega
        rw [decide_eq_true ho, decide_eq_false hno]
        rfl
      · rw [decide_eq_false ho]; rfl
  · simp
  · intro k hk
    dsimp only
    have := hr.2 _ (at0_mem hk)
    rw [if_pos (by simp only [decide_eq_true_eq]; omega), geti_at0 hk, Option.bind_some, wr (x := -at0 xs k) ⟨by omega, by omega⟩, appO_ok (by simp; omega), Option.bind_some, wr_succ (n := xs.length) (by omega) hk, at0_take hk, List.map_append]
    rfl
  · dsimp only; rw [if_neg (by simp), List.take_length]
/-! ### shares -/
def SharesOk (xs : List Int) : Prop := (1 ≤ xs.length ∧ xs.length ≤ 7) ∧ (∀ x ∈ xs, 0 ≤ x ∧ x ≤ 20) ∧ 0 < sm xs
instance (xs : List Int) : Decidable (SharesOk xs) := inferInstanceAs (Decidable (_ ∧ _ ∧ _))
theorem sbd_of {xs : List Int} (hl : xs.length ≤ 7) (h : ∀ x ∈ xs, 0 ≤ x ∧ x ≤ 20) : Bd xs := ⟨by omega, fun x hx => by have := h x hx; omega⟩
theorem implSharesValid_eq (xs : List Int) (hl : xs.length ≤ 4611686018427387904) : impl_SharesValidS xs = some (decide (SharesOk xs)) := by
  unfold impl_SharesValidS
  by_cases h17 : 1 ≤ xs.length ∧ xs.length ≤ 7
  · rw [if_neg (by simp only [Bool.or_eq_true, decide_eq_true_eq]; omega), amountsOk_eq _ _ _ hl, Option.bind_some, Option.bind_some]
    by_cases ha : ∀ x ∈ xs, 0 ≤ x ∧ x ≤ 20
    · rw [decide_eq_true ⟨rfl, ha⟩, if_neg (by simp), implSum_eq (sbd_of h17.2 ha), Option.bind_some]
      congr 1
      rw [Bool.eq_iff_iff, decide_eq_true_eq, decide_eq_true_eq]
      exact ⟨fun h => ⟨h17, ha, h⟩, fun h => h.2.2⟩
    · rw [decide_eq_false (fun h => ha h.2), if_pos (by simp), decide_eq_false (show ¬ SharesOk xs from fun h => ha h.2.1)]
  · rw [if_pos (by simp only [Bool.or_eq_true, decide_eq_true_eq]; omega), Option.bind_some, if_pos rfl, decide_eq_false (show ¬ SharesOk xs from fun h => h17 h.1)]
theorem specSharesValid_eq (xs : List Int) (hl : xs.length ≤ 4611686018427387904) : spec_SharesValidS xs = some (decide (SharesOk xs)) := by
  unfold spec_SharesValidS
  rw [loopAll xs.length (fun k => decide (0 ≤ at0 xs k ∧ at0 xs k ≤ 20))]
  · rw [Option.bind_some, all_at0 xs (fun x => 0 ≤ x ∧ x ≤ 20)]
    by_cases ha : ∀ x ∈ xs, 0 ≤ x ∧ x ≤ 20
    · rw [if_pos (decide_eq_true ha)]
      dsimp only
      rw [l1In_eq, Option.bind_some]
      by_cases h17 : 1 ≤ xs.length ∧ xs.length ≤ 7
      · rw [decide_eq_true (show (1 : Int) ≤ xs.length ∧ (xs.length : Int) ≤ 7 by omega), if_pos rfl, specSum_eq (sbd_of h17.2 ha), Option.bind_some, Option.bind_some]
        congr 1
        rw [Bool.eq_iff_iff, decide_eq_true_eq, decide_eq_true_eq]
        exact ⟨fun h => ⟨h17, ha, h⟩, fun h => h.2.2⟩
      · rw [decide_eq_false (show ¬ ((1 : Int) ≤ xs.length ∧ (xs.length : Int) ≤ 7) by omega), if_neg (by simp), decide_eq_false (show ¬ SharesOk xs from fun h => h17 h.1)]; rfl
    · rw [if_neg (by simpa using ha), decide_eq_false (show ¬ SharesOk xs from fun h => ha h.2.1)]
  · intro k hk
    dsimp only
    rw [if_pos (by simp only [decide_eq_true_eq]; omega), geti_at0 hk, Option.bind_some, l1In_eq, Option.bind_some, wr_succ (n := xs.length) (by omega) hk]
    by_cases h : 0 ≤ at0 xs k ∧ at0 xs k ≤ 20
    · rw [decide_eq_true h]; rfl
    · rw [decide_eq_false h]; rfl
  · dsimp only; rw [if_neg (by simp)]
def ShR (xs : List Int) : Prop := xs.length ≤ 8 ∧ Rg 30 xs
theorem mk0 {m : Int} (h0 : 0 ≤ m) (h : m ≤ 1000) : mkO (0 : Int) m = some (List.replicate m.toNat 0) := by
  unfold mkO room
  rw [if_pos (by simp; omega)]
theorem shares_ret {b : List Int} {p n : Int} (hb : By b) (h0 : 0 ≤ p) (h1 : p ≤ 1000) : Ret (spec_l20SharesS b p n) (fun r => 0 ≤ r.1 ∧ r.1 ≤ 2000 ∧ ShR r.2) := by
  unfold spec_l20SharesS
  refine Ret.bind (pick_ret hb h0 (by omega)) (fun x5 h5 => ?_)
  have h52 := h5.2.2 (by omega)
  rw [wr (x := 1 + x5.2) ⟨by omega, by omega⟩]
  refine Ret.loopb (fun s => (s.1.length : Int) + s.2.1 = 1 + x5.2 ∧ 0 ≤ s.2.1 ∧ 0 ≤ s.2.2 ∧ s.2.2 + 2 * s.2.1 ≤ 1100 ∧ Rg 15 s.1) (fun s => s.2.1.toNat) (fun r => (r.1.length : Int) = 1 + x5.2 ∧ 0 ≤ r.2 ∧ r.2 ≤ 1100 ∧ Rg 15 r.1) ?_ ?_ ?_
  · dsimp only; exact ⟨by simp, by omega, by omega, by omega, (fun x hx => by cases hx)⟩
  · rintro ⟨s11, s12, s13⟩ ⟨i1, i2, i3, i4, i5⟩
    dsimp only at i1 i2 i3 i4 i5 ⊢
    refine Ret.ite (fun h => ?_) (fun h => ?_)
    · have hp : s12 > 0 := of_decide_eq_true h
      refine Ret.bind (pick_ret hb i3 (by omega)) (fun x15 h15 => ?_)
      refine Ret.bind (pick_ret hb (by omega) (by omega)) (fun x20 h20 => ?_)
      have q1 := h15.2.2 (by omega)
      have q2 := h20.2.2 (by omega)
      rw [wr (x := 1 + x20.2) ⟨by omega, by omega⟩]
      have hm := mul_in (a := x15.2) (b := 1 + x20.2) (A := 5) (B := 3) ⟨by omega, by omega⟩ ⟨by omega, by omega⟩ (by omega)
      rw [wr (x := x15.2 * (1 + x20.2)) ⟨by omega, by omega⟩, wr (x := s12 - 1) ⟨by omega, by omega⟩, appO_ok (by simp; omega), Option.bind_some]
      refine Ret.pure ⟨⟨by simp; omega, by dsimp only; omega, by dsimp only; omega, by dsimp only; omega, i5.append (Rg.one (by omega))⟩, by dsimp only; omega⟩
    · have : ¬ s12 > 0 := of_decide_eq_false h
      exact Ret.pure ⟨by dsimp only; omega, i3, by dsimp only; omega, i5⟩
  · rintro ⟨p36, p37⟩ ⟨i1, i2, i3, i4⟩
    dsimp only at i1 i2 i3 i4 ⊢
    refine Ret.bind (odd_ret hb i2 (by omega)) (fun x38 h38 => ?_)
    refine Ret.ite (fun h => ?_) (fun h => ?_)
    · refine Ret.bind (pick_ret hb (by omega) (by omega)) (fun x44 h44 => ?_)
      refine Ret.ite (fun h => ?_) (fun h => Ret.ite (fun h2 => ?_) (fun h2 => ?_))
      · refine Ret.bind (pick_ret hb (by omega) (by omega)) (fun x50 h50 => ?_)
        have q := h50.2.2 (by omega)
        rw [mk0 h50.2.1 (by omega), Option.bind_some]
        refine Ret.pure ⟨by dsimp only; omega, by dsimp only; omega, by simp; omega, fun x hx => ?_⟩
        rw [List.eq_of_mem_replicate hx]; omega
      · refine Ret.bind (pick_ret hb (by omega) (by omega)) (fun x66 h66 => ?_)
        have q := h66.2.2 (by omega)
        have hg : Ret (geti ([(-1), 21] : List Int) x66.2) (fun v => v ∈ ([(-1), 21] : List Int)) := geti_ret h66.2.1 (by simp; omega)
        refine Ret.bind hg (fun x72 h72 => ?_)
        have hsub : subO p36 1 (List.length p36 : Int) = some (p36.drop 1) := by
          unfold subO
          rw [if_pos (by simp; omega)]
          simp
        rw [hsub, Option.bind_some, appO_ok (by simp; omega), Option.bind_some]
        refine Ret.pure ⟨by dsimp only; omega, by dsimp only; omega, by simp; omega, (Rg.one ?_).append (fun x hx => ?_)⟩
        · simp at h72; omega
        · have := i4 x (List.mem_of_mem_drop hx); omega
      · refine Ret.pure ⟨by omega, by omega, by simp, fun x hx => ?_⟩
        simp at hx; omega
    · rw [specSum_eq (i4.bd (by omega) (by omega)), Option.bind_some]
      refine Ret.bind (Q := fun j => j.length ≤ 8 ∧ Rg 30 j) ?_ (fun j hj => Ret.pure ⟨by dsimp only; omega, by dsimp only; omega, hj.1, hj.2⟩)
      refine Ret.ite (fun h => ?_) (fun h => Ret.pure ⟨by omega, i4.mono (by omega)⟩)
      have hl : 0 < p36.length := by omega
      rw [show (0 : Int) = ((0 : Nat) : Int) from rfl, geti_at0 hl, Option.bind_some]
      exact Ret.pure ⟨by simp; omega, (i4.mono (by omega)).set _ (by omega)⟩
theorem sm_replicate (n : Nat) (c : Int) : sm (List.replicate n c) = n * c := by
  induction n with
  | zero => simp [sm]
  | succ n ih => rw [List.replicate_succ, sm, ih, Int.natCast_succ, Int.add_mul]; omega
theorem pl_FnSharesValid (x : List Int) (hw : ∀ n ∈ x, InK .u8 n) : laws_FnSharesValidS x = some true := by
  unfold laws_FnSharesValidS
  by_cases hl : (x.length : Int) > 1048576
  · rw [if_pos (by simp; omega)]
  rw [if_neg (by simp; omega)]
  obtain ⟨xs, hd, hr⟩ : ∃ xs, spec_DrawSharesValidS x = some xs ∧ ShR xs := by
    unfold spec_DrawSharesValidS
    refine Ret.bind (open_spec x (u8_of hw)) (fun r hr => ?_)
    refine Ret.bind (shares_ret hr.1 (by omega) (by omega)) (fun v hv => ?_)
    exact Ret.pure hv.2.2
  have hl8 := hr.1
  rw [hd, Option.bind_some, implSharesValid_eq _ (by omega), Option.bind_some, specSharesValid_eq _ (by omega), Option.bind_some, if_neg (by simp)]
  rw [loopDet (fun k => (List.replicate k (1 : Int), (k : Int))) xs.length (List.replicate xs.length 1)]
  · rw [Option.bind_some, mk0 (by omega) (by omega), Option.bind_some]
    rw [implSharesValid_eq _ (by simp; omega), Option.bind_some, implSharesValid_eq _ (by simp; omega)]
    have h1 : ¬ SharesOk (List.replicate ((xs.length : Int).toNat) 0) := fun h => by
      have := h.2.2; rw [sm_replicate] at this; omega
    rw [decide_eq_false h1]
    by_cases ho : SharesOk xs
    · have h2 : SharesOk (List.replicate xs.length 1) := ⟨by have := ho.1; simpa using this, fun x hx => by rw [List.eq_of_mem_replicate hx]; omega, by rw [sm_replicate]; have := ho.1; omega⟩
      rw [decide_eq_true ho, decide_eq_true h2]; rfl
    · rw [decide_eq_false ho]; rfl
  · rfl
  · intro k hk
    dsimp only
    rw [if_pos (by simp only [decide_eq_true_eq]; omega), appO_ok (by simp; omega), Option.bind_some, wr_succ (n := xs.length) (by omega) hk, List.replicate_succ']
  · dsimp only; rw [if_neg (by simp)]
end Go.Proofs.YtohhaladggoglaaDoor
