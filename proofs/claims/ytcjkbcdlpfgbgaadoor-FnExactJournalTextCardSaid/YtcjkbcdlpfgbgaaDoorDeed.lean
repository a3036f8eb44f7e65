/- Deeds and their texts in plain words. Own work; no program in sight. -/
import Derived.Test.YtcjkbcdlpfgbgaaDoorKit
set_option linter.unusedVariables false
namespace Go.Proofs.YtcjkbcdlpfgbgaaDoor
open Go Go.RowKit
theorem wr8 {n : Nat} (h : n < 256) : IntKind.wrap .u8 (n : Int) = (n : Int) := by
  simp only [IntKind.wrap, IntKind.signed, IntKind.bits]
  simp [Int.emod_eq_of_lt]
  omega
theorem digit_eq {n : Nat} (h : n < 10) : bytesOf [IntKind.wrap .u8 (IntKind.wrap .i64 (48 + (n : Int)))] = [UInt8.ofNat (48 + n)] := by
  rw [show (48 : Int) + (n : Int) = ((48 + n : Nat) : Int) by omega, wrn (by omega), wr8 (by omega)]
  rfl
theorem tmod10 (n : Nat) : Int.tmod (n : Int) 10 = ((n % 10 : Nat) : Int) := by rw [Int.tmod_eq_emod_of_nonneg (by omega)]; omega
theorem tdiv10 (n : Nat) : Int.tdiv (n : Int) 10 = ((n / 10 : Nat) : Int) := by rw [Int.tdiv_eq_ediv_of_nonneg (by omega)]; omega
theorem strAdd_le {a b : List UInt8} (h : a.length + b.length ≤ 1099511627776) : strAdd a b = some (a ++ b) := by
  unfold strAdd room; rw [if_pos (by simp; omega)]
theorem numF : ∀ (f n : Nat), f ≤ 1000 → n < 10 ^ (f + 1) → n < 1000000000 → spec_l1NumberF (f + 1) (n : Int) = some (Lib.decDigits n) ∧ (Lib.decDigits n).length ≤ f + 1
  | 0, n, hf, h, h9 => by
    have h10 : n < 10 := by simpa using h
    rw [spec_l1NumberF, if_neg (by simp; omega), if_neg (by simp), if_pos (by simp; omega), digit_eq h10, Lib.decDigits_one h10]
    exact ⟨rfl, Nat.le_refl _⟩
  | f + 1, n, hf, h, h9 => by
    by_cases h10 : n < 10
    · rw [spec_l1NumberF, if_neg (by simp; omega), if_neg (by simp), if_pos (by simp; omega), digit_eq h10, Lib.decDigits_one h10]
      exact ⟨rfl, by simp⟩
    · obtain ⟨ih, ihl⟩ := numF f (n / 10) (by omega) (by rw [Nat.pow_succ] at h; omega) (by omega)
      have hdec : Lib.decDigits n = Lib.decDigits (n / 10) ++ [UInt8.ofNat (48 + n % 10)] := by rw [Lib.decDigits, dif_neg h10]
      rw [spec_l1NumberF, if_neg (by simp; omega), if_neg (by simp), if_neg (by simp; omega), tdiv10, wrn (by omega), ih, Option.bind_some, tmod10, digit_eq (by omega), strAdd_le (by simp; omega), Option.bind_some, hdec]
      exact ⟨rfl, by simp; omega⟩
theorem number_eq {n : Nat} (h : n < 1000) : spec_l1NumberS (n : Int) = some (Lib.decDigits n) :=
  (numF 199 n (by omega) (Nat.lt_of_lt_of_le (show n < 10 ^ 3 by omega) (Nat.pow_le_pow_right (by omega) (by omega))) (by omega)).1
theorem digits_len {n : Nat} (h : n < 1000) : (Lib.decDigits n).length ≤ 3 := (numF 2 n (by omega) (by omega) (by omega)).2
theorem itoa_eq {x : Int} (h0 : 0 ≤ x) (h : x ≤ 999) : strconv_ItoaS x = some (Lib.decDigits x.toNat) := by
  unfold strconv_ItoaS Lib.itoa
  rw [if_pos (by omega), if_neg (by omega)]
/-! ### kinds -/
theorem kind_facts {i : Nat} (h : i < 6) : ∃ (nm : List UInt8) (m : Nat), geti deedNames (i : Int) = some nm ∧ geti deedNumbers (i : Int) = some (m : Int) ∧ nm ≠ [] ∧ nm.length ≤ 5 ∧ m ≤ 3 := by
  have hc : i = 0 ∨ i = 1 ∨ i = 2 ∨ i = 3 ∨ i = 4 ∨ i = 5 := by omega
  rcases hc with rfl | rfl | rfl | rfl | rfl | rfl
  · exact ⟨_, 2, rfl, rfl, by decide, by decide, by decide⟩
  · exact ⟨_, 2, rfl, rfl, by decide, by decide, by decide⟩
  · exact ⟨_, 1, rfl, rfl, by decide, by decide, by decide⟩
  · exact ⟨_, 3, rfl, rfl, by decide, by decide, by decide⟩
  · exact ⟨_, 0, rfl, rfl, by decide, by decide, by decide⟩
  · exact ⟨_, 1, rfl, rfl, by decide, by decide, by decide⟩
def okN (x : Int) : Prop := 0 ≤ x ∧ x ≤ 999
instance (x : Int) : Decidable (okN x) := inferInstanceAs (Decidable (_ ∧ _))
def nt (x : Int) : List UInt8 := 32 :: Lib.decDigits x.toNat
theorem nt_len {x : Int} (h : okN x) : (nt x).length ≤ 4 := by
  unfold nt okN at *
  have := digits_len (n := x.toNat) (by omega)
  simp; omega
def textTo (nm : List UInt8) (L : List Int) : Nat → List UInt8
  | 0 => nm
  | k + 1 => textTo nm L k ++ nt (L.getD k 0)
theorem textTo_len {nm : List UInt8} {L : List Int} : ∀ {k : Nat}, (∀ i, i < k → okN (L.getD i 0)) → (textTo nm L k).length ≤ nm.length + 4 * k
  | 0, _ => Nat.le_refl _
  | k + 1, h => by
    have ih := textTo_len (nm := nm) (L := L) (k := k) (fun i hi => h i (by omega))
    have := nt_len (h k (by omega))
    unfold textTo
    rw [List.length_append]; omega
def DeedOk (m : Nat) (L : List Int) : Prop := ∀ i, i < 3 → okN (L.getD i 0) ∧ (m ≤ i → L.getD i 0 = 0)
instance (m : Nat) (L : List Int) : Decidable (DeedOk m L) := inferInstanceAs (Decidable (∀ i, i < 3 → _))
def deedText (nm : List UInt8) (m : Nat) (L : List Int) : List UInt8 := if DeedOk m L then textTo nm L m else []
def kindText (k a b c : Int) : List UInt8 := if 0 ≤ k ∧ k ≤ 5 then deedText (deedNames.getD k.toNat []) (deedNumbers.getD k.toNat 0).toNat [a, b, c] else []
theorem geti_getD' {α : Type} {xs : List α} {k : Nat} {d x : α} (h : geti xs (k : Int) = some x) : xs.getD k d = x := by
  rw [geti_nat] at h
  rw [List.getD_eq_getElem?_getD, h]; rfl
theorem specName_eq {i : Nat} (h : i < 6) : spec_l7NameS (i : Int) = geti deedNames (i : Int) := by
  unfold spec_l7NameS
  obtain ⟨nm, m, h1, _⟩ := kind_facts h
  rw [l1In_eq, Option.bind_some, decide_eq_true (show (0 : Int) ≤ (i : Int) ∧ (i : Int) ≤ 5 by omega), if_neg (by simp)]
  show (geti deedNames (i : Int)).bind _ = _
  rw [h1]; rfl
theorem specMany_eq {i : Nat} (h : i < 6) : spec_l7ManyS (i : Int) = geti deedNumbers (i : Int) := by
  obtain ⟨nm, m, h1, h2, _⟩ := kind_facts h
  show (geti deedNumbers (i : Int)).bind _ = _
  rw [h2]; rfl
theorem specName_out {k : Int} (h : ¬ (0 ≤ k ∧ k ≤ 5)) : spec_l7NameS k = some [] := by
  unfold spec_l7NameS
  rw [l1In_eq, Option.bind_some, decide_eq_false h]; rfl
theorem specDeed_eq (k a b c : Int) : spec_DeedTextS k a b c = some (kindText k a b c) := by
  unfold spec_DeedTextS kindText
  by_cases hk : 0 ≤ k ∧ k ≤ 5
  · obtain ⟨i, rfl⟩ : ∃ i : Nat, k = i := ⟨k.toNat, by omega⟩
    have hi : i < 6 := by omega
    obtain ⟨nm, m, h1, h2, hne, hnl, hm3⟩ := kind_facts hi
    rw [specName_eq hi, h1, Option.bind_some, if_neg (by simpa using hne), Option.bind_some, if_pos hk, show ((i : Nat) : Int).toNat = i from rfl, geti_getD' h1, geti_getD' h2, show ((m : Nat) : Int).toNat = m from rfl]
    simp only [specMany_eq hi, h2, Option.bind_some]
    have hL : [a, b, c].length = 3 := rfl
    generalize [a, b, c] = L at hL ⊢
    unfold deedText
    refine Ret.eq (Ret.loopb (fun s => ∃ k : Nat, s = (textTo nm L (min k m), (k : Int)) ∧ k ≤ 3 ∧ ∀ i, i < k → okN (L.getD i 0) ∧ (m ≤ i → L.getD i 0 = 0)) (fun s => 3 - s.2.toNat)
      (fun r => (r = .inl (textTo nm L m) ∧ DeedOk m L) ∨ (r = .inr [] ∧ ¬ DeedOk m L)) ⟨0, by simp [textTo], by omega, fun i hi => by omega⟩ ?_ (fun r hr => ?_))
    · rintro s ⟨k, rfl, hk3, hp⟩
      (try dsimp only)
      by_cases hk : k < 3
      · rw [if_pos (by simp; omega), geti_getD (show k < L.length by omega), Option.bind_some, l1In_eq, Option.bind_some]
        have hmk : decide ((k : Int) ≥ (m : Int)) = decide (m ≤ k) := by rw [Bool.eq_iff_iff, decide_eq_true_eq, decide_eq_true_eq]; omega
        rw [hmk]
        by_cases ho : okN (L.getD k 0)
        · rw [decide_eq_true (show 0 ≤ L.getD k 0 ∧ L.getD k 0 ≤ 999 from ho), if_neg (by simp)]
          by_cases hmk : m ≤ k
          · rw [decide_eq_true hmk, if_pos rfl, Option.bind_some, Option.bind_some, Option.bind_some]
            by_cases hz : L.getD k 0 = 0
            · rw [hz, if_neg (by simp), if_neg (by simp; omega)]
              have e1 : min (k + 1) m = min k m := by omega
              refine Ret.pure ⟨⟨k + 1, by rw [e1, wr_succ (n := 3) (by omega) hk], by omega, fun i hi => ?_⟩, by dsimp only; rw [wr_succ (n := 3) (by omega) hk]; omega⟩
              rcases Nat.lt_or_ge i k with h | h
              · exact hp i h
              · have : i = k := by omega
                subst this
                exact ⟨ho, fun _ => hz⟩
            · rw [if_pos (by simpa using hz)]
              exact Ret.pure (.inr ⟨rfl, fun hd => hz ((hd k hk).2 hmk)⟩)
          · rw [decide_eq_false hmk, if_neg (by simp), Option.bind_some, Option.bind_some, if_neg (by simp), if_pos (by simp; omega)]
            have e0 : min k m = k := by omega
            have e1 : min (k + 1) m = k + 1 := by omega
            have hlen := textTo_len (nm := nm) (L := L) (k := k) (fun i hi => (hp i hi).1)
            have hd := digits_len (n := (L.getD k 0).toNat) (by unfold okN at ho; omega)
            rw [e0, strAdd_le (by simp only [List.length_append, List.length_cons, List.length_nil]; omega), Option.bind_some, show L.getD k 0 = (((L.getD k 0).toNat : Nat) : Int) by unfold okN at ho; omega, Option.bind_some, number_eq (by unfold okN at ho; omega), Option.bind_some, strAdd_le (by simp only [List.length_append, List.length_cons, List.length_nil]; omega), Option.bind_some]
            refine Ret.pure ⟨⟨k + 1, ?_, by omega, fun i hi => ?_⟩, by dsimp only; rw [wr_succ (n := 3) (by omega) hk]; omega⟩
            · rw [e1, wr_succ (n := 3) (by omega) hk]
              simp only [textTo, nt, List.append_assoc, List.cons_append, List.nil_append]
            · rcases Nat.lt_or_ge i k with h | h
              · exact hp i h
              · have : i = k := by omega
                subst this
                exact ⟨ho, fun h => absurd h hmk⟩
        · rw [decide_eq_false (show ¬ (0 ≤ L.getD k 0 ∧ L.getD k 0 ≤ 999) from ho), if_pos (by simp), Option.bind_some, if_pos rfl]
          exact Ret.pure (.inr ⟨rfl, fun hd => ho (hd k hk).1⟩)
      · have : k = 3 := by omega
        subst this
        rw [if_neg (by simp; omega)]
        refine Ret.pure (.inl ⟨?_, fun i hi => hp i hi⟩)
        rw [show min 3 m = m by omega]
    · rcases hr with ⟨rfl, h⟩ | ⟨rfl, h⟩
      · rw [if_pos h]; exact Ret.pure rfl
      · rw [if_neg h]; exact Ret.pure rfl
  · rw [specName_out hk, Option.bind_some, if_pos (by simp), if_neg hk]
/-- the rest of a deed's numbers is zero -/
theorem implNamed_eq {i : Nat} (hi : i < 6) {m : Nat} (h2 : geti deedNumbers (i : Int) = some (m : Int)) (hm3 : m ≤ 3) (a b c : Int) : impl_onlyNamedS (i : Int) a b c = some (([a, b, c].drop m).all fun x => x == 0) := by
  unfold impl_onlyNamedS
  rw [if_neg (by simp only [Bool.or_eq_true, decide_eq_true_eq]; omega), h2, Option.bind_some]
  have hs : subO ([a, b, c] : List Int) (m : Int) (List.length ([a, b, c] : List Int) : Int) = some ([a, b, c].drop m) := by
    unfold subO
    rw [if_pos (by simp; omega)]
    simp
  rw [hs, Option.bind_some, loopList ([a, b, c].drop m) (fun _ x => x == 0)]
  · rw [Option.bind_some, allI_all]
    generalize (([a, b, c].drop m).all fun x => x == 0) = q
    cases q <;> rfl
  · intro k hk
    (try dsimp only)
    have hl : ([a, b, c].drop m).length ≤ 3 := by simp
    rw [if_pos (lt_dec hk), geti_lt' hk, Option.bind_some, wr_succ (n := ([a, b, c].drop m).length) (by omega) hk]
    by_cases h0 : ([a, b, c].drop m)[k] = 0
    · rw [if_neg (by simpa using h0), if_pos (by simpa using h0)]
    · rw [if_pos (by simpa using h0), if_neg (by simpa using h0)]
  · (try dsimp only)
    rw [if_neg (by simp)]
theorem drop_zero {L : List Int} (hL : L.length = 3) {m : Nat} : ((L.drop m).all fun x => x == 0) = true ↔ ∀ i, i < 3 → m ≤ i → L.getD i 0 = 0 := by
  rw [List.all_eq_true]
  constructor
  · intro h i hi hm
    have h1 : L.getD i 0 ∈ L.drop m := by
      rw [getD_lt (by omega)]
      exact List.mem_drop_iff_getElem.2 ⟨i - m, by omega, by simp [show m + (i - m) = i by omega]⟩
    simpa using h _ h1
  · intro h x hx
    obtain ⟨j, hj, rfl⟩ := List.mem_drop_iff_getElem.1 hx
    have := h (m + j) (by omega) (by omega)
    rw [getD_lt (by omega)] at this
    simpa using this
theorem implDeed_eq (k a b c : Int) : impl_DeedTextS k a b c = some (kindText k a b c) := by
  unfold impl_DeedTextS kindText
  by_cases hk : 0 ≤ k ∧ k ≤ 5
  · obtain ⟨i, rfl⟩ : ∃ i : Nat, k = i := ⟨k.toNat, by omega⟩
    have hi : i < 6 := by omega
    obtain ⟨nm, m, h1, h2, hne, hnl, hm3⟩ := kind_facts hi
    rw [implNamed_eq hi h2 hm3, Option.bind_some, if_pos hk, show ((i : Nat) : Int).toNat = i from rfl, geti_getD' h1, geti_getD' h2, show ((m : Nat) : Int).toNat = m from rfl, h1, h2]
    simp only [Option.bind_some]
    have hL : [a, b, c].length = 3 := rfl
    generalize [a, b, c] = L at hL ⊢
    unfold deedText
    cases hz : ((L.drop m).all fun x => x == 0)
    · rw [if_pos (by simp), if_neg]
      intro hd
      have := (drop_zero hL (m := m)).2 fun i hi hm => (hd i hi).2 hm
      rw [this] at hz; cases hz
    · have hz' := (drop_zero hL).1 hz
      have hs : subO L 0 (m : Int) = some (L.take m) := by
        unfold subO
        rw [if_pos (by simp; omega)]
        simp
      rw [if_neg (by simp), hs, Option.bind_some]
      have hlt : (L.take m).length = m := by simp; omega
      have hdk : DeedOk m L ↔ ∀ i, i < m → okN (L.getD i 0) := by
        constructor
        · intro h i hi; exact (h i (by omega)).1
        · intro h i hi
          rcases Nat.lt_or_ge i m with h1 | h1
          · exact ⟨h i h1, fun h2 => by omega⟩
          · have := hz' i hi h1
            exact ⟨by rw [this]; exact ⟨by omega, by omega⟩, fun _ => this⟩
      have hget : ∀ j, j < m → (L.take m).getD j 0 = L.getD j 0 := by
        intro j hj
        rw [getD_lt (by omega), getD_lt (by omega)]
        simp
      generalize L.take m = T at hlt hget ⊢
      refine Ret.eq (Ret.loopb (fun s => ∃ k : Nat, s = (textTo nm L k, (k : Int)) ∧ k ≤ m ∧ ∀ i, i < k → okN (L.getD i 0)) (fun s => 3 - s.2.toNat)
        (fun r => (r = .inl (textTo nm L m) ∧ DeedOk m L) ∨ (r = .inr [] ∧ ¬ DeedOk m L)) ⟨0, by simp [textTo], by omega, fun i hi => by omega⟩ ?_ (fun r hr => ?_))
      · rintro s ⟨k, rfl, hkm, hp⟩
        (try dsimp only)
        by_cases hk : k < m
        · rw [if_pos (by simp; omega), geti_getD (show k < T.length by omega), Option.bind_some, hget k hk]
          by_cases ho : okN (L.getD k 0)
          · have ho' := ho
            unfold okN at ho'
            have hlen := textTo_len (nm := nm) (L := L) (k := k) (fun i hi => hp i hi)
            have hd := digits_len (n := (L.getD k 0).toNat) (by omega)
            rw [if_neg (by simp only [Bool.or_eq_true, decide_eq_true_eq]; omega), itoa_eq ho'.1 ho'.2, Option.bind_some, strAdd_le (by simp only [List.length_append, List.length_cons, List.length_nil]; omega), Option.bind_some, strAdd_le (by simp only [List.length_append, List.length_cons, List.length_nil]; omega), Option.bind_some]
            refine Ret.pure ⟨⟨k + 1, ?_, by omega, fun i hi => ?_⟩, by dsimp only; rw [wr_succ (n := 3) (by omega) (by omega)]; omega⟩
            · rw [wr_succ (n := 3) (by omega) (by omega)]
              simp only [textTo, nt, List.append_assoc, List.cons_append, List.nil_append]
            · rcases Nat.lt_or_ge i k with h | h
              · exact hp i h
              · have : i = k := by omega
                subst this
                exact ho
          · rw [if_pos (by unfold okN at ho; simp only [Bool.or_eq_true, decide_eq_true_eq]; omega)]
            exact Ret.pure (.inr ⟨rfl, fun hd => ho (hdk.1 hd k hk)⟩)
        · have : k = m := by omega
          subst this
          rw [if_neg (by simp; omega)]
          exact Ret.pure (.inl ⟨rfl, hdk.2 hp⟩)
      · rcases hr with ⟨rfl, h⟩ | ⟨rfl, h⟩
        · rw [if_pos h]; exact Ret.pure rfl
        · rw [if_neg h]; exact Ret.pure rfl
  · have : impl_onlyNamedS k a b c = some false := by
      unfold impl_onlyNamedS
      rw [if_pos (by simp only [Bool.or_eq_true, decide_eq_true_eq]; omega)]
    rw [this, Option.bind_some, if_pos (by simp), if_neg hk]
theorem pl_FnExactDeedText (k a b c : Int) : laws_FnExactDeedTextS k a b c = some true := by
  unfold laws_FnExactDeedTextS laws_toHouseDeedS
  rw [Option.bind_some, specDeed_eq, Option.bind_some, Option.bind_some, implDeed_eq, Option.bind_some, if_neg (by simp)]
end Go.Proofs.YtcjkbcdlpfgbgaaDoor
