import Derived.Test.YtkhnponakhabdaaGreatDoorMPl
import Derived.Lib.IndexMore
import Derived.Lib.Split
import Derived.Test.YtkhnponakhabdaaGreatDoorMWk
set_option linter.unusedVariables false
namespace Go.Proofs.YtkhnponakhabdaaGreatDoor
open Go Go.RowKit
theorem wr8 {n : Nat} (h : n < 256) : IntKind.wrap .u8 (n : Int) = (n : Int) := by
 simp only [IntKind.wrap, IntKind.signed, IntKind.bits]
 simp [Int.emod_eq_of_lt]
 omega
theorem digit_eq {n : Nat} (h : n < 10) : bytesOf [IntKind.wrap .u8 (IntKind.wrap .i64 (48 + (n : Int)))] = [UInt8.ofNat (48 + n)] := by
 rw [show (48 : Int) + (n : Int) = ((48 + n : Nat) : Int) by omega, wrn (by omega), wr8 (by omega)]
 rfl
theorem tmod10 (n : Nat) : Int.tmod (n : Int) 10 = ((n % 10 : Nat) : Int) := by rw [Int.tmod_eq_emod_of_nonneg (by omega)]; omega
theorem tdiv10 (n : Nat) : Int.tdiv (n : Int) 10 = ((n / 10 : Nat) : Int) := by rw [Int.tdiv_eq_ediv_of_nonneg (by omega)]; omega
theorem strAdd_le {a b : List UInt8} (h : a.length + b.length ≤ 1099511627776) : strAdd a b = some (a ++ b) := by
 unfold strAdd room; rw [if_pos (by simp; omega)]
theorem numF : ∀ (f n : Nat), f ≤ 1000 → n < 10 ^ (f + 1) → n < 1000000000 → spec_l1NumberF (f + 1) (n : Int) = some (Lib.decDigits n) ∧ (Lib.decDigits n).length ≤ f + 1
 | 0, n, hf, h, h9 => by
  have h10 : n < 10 := by simpa using h
  rw [spec_l1NumberF, if_neg (by simp; omega), if_neg (by simp), if_pos (by simp; omega), digit_eq h10, Lib.decDigits_one h10]
  exact ⟨rfl, Nat.le_refl _⟩
 | f + 1, n, hf, h, h9 => by
  by_cases h10 : n < 10
  ·rw [spec_l1NumberF, if_neg (by simp; omega), if_neg (by simp), if_pos (by simp; omega), digit_eq h10, Lib.decDigits_one h10]
   exact ⟨rfl, by simp⟩
  ·obtain ⟨ih, ihl⟩ := numF f (n / 10) (by omega) (by rw [Nat.pow_succ] at h; omega) (by omega)
   have hdec : Lib.decDigits n = Lib.decDigits (n / 10) ++ [UInt8.ofNat (48 + n % 10)] := by rw [Lib.decDigits, dif_neg h10]
   rw [spec_l1NumberF, if_neg (by simp; omega), if_neg (by simp), if_neg (by simp; omega), tdiv10, wrn (by omega), ih, Option.bind_some, tmod10, digit_eq (by omega), strAdd_le (by simp; omega), Option.bind_some, hdec]
   exact ⟨rfl, by simp; omega⟩
theorem number_eq {n : Nat} (h : n < 1000) : spec_l1NumberS (n : Int) = some (Lib.decDigits n) :=
 (numF 199 n (by omega) (Nat.lt_of_lt_of_le (show n < 10 ^ 3 by omega) (Nat.pow_le_pow_right (by omega) (by omega))) (by omega)).1
theorem digits_len {n : Nat} (h : n < 1000) : (Lib.decDigits n).length ≤ 3 := (numF 2 n (by omega) (by omega) (by omega)).2
theorem itoa_eq {x : Int} (h0 : 0 ≤ x) (h : x ≤ 999) : strconv_ItoaS x = some (Lib.decDigits x.toNat) := by
 unfold strconv_ItoaS Lib.itoa
 rw [if_pos (by omega), if_neg (by omega)]
theorem kind_facts {i : Nat} (h : i < 6) : ∃ (nm : List UInt8) (m : Nat), geti deedNames (i : Int) = some nm ∧ geti deedNumbers (i : Int) = some (m : Int) ∧ nm ≠ [] ∧ nm.length ≤ 5 ∧ m ≤ 3 := by
 have hc : i = 0 ∨ i = 1 ∨ i = 2 ∨ i = 3 ∨ i = 4 ∨ i = 5 := by omega
 rcases hc with rfl | rfl | rfl | rfl | rfl | rfl
 ·exact ⟨_, 2, rfl, rfl, by decide, by decide, by decide⟩
 ·exact ⟨_, 2, rfl, rfl, by decide, by decide, by decide⟩
 ·exact ⟨_, 1, rfl, rfl, by decide, by decide, by decide⟩
 ·exact ⟨_, 3, rfl, rfl, by decide, by decide, by decide⟩
 ·exact ⟨_, 0, rfl, rfl, by decide, by decide, by decide⟩
 ·exact ⟨_, 1, rfl, rfl, by decide, by decide, by decide⟩
def okN (x : Int) : Prop := 0 ≤ x ∧ x ≤ 999
instance (x : Int) : Decidable (okN x) := inferInstanceAs (Decidable (_ ∧ _))
def nt (x : Int) : List UInt8 := 32 :: Lib.decDigits x.toNat
theorem nt_len {x : Int} (h : okN x) : (nt x).length ≤ 4 := by
 unfold nt okN at *
 have := digits_len (n := x.toNat) (by omega)
 simp; omega
def textTo (nm : List UInt8) (L : List Int) : Nat → List UInt8
 | 0 => nm
 | k + 1 => textTo nm L k ++ nt (L.getD k 0)
theorem textTo_len {nm : List UInt8} {L : List Int} : ∀ {k : Nat}, (∀ i, i < k → okN (L.getD i 0)) → (textTo nm L k).length ≤ nm.length + 4 * k
 | 0, _ => Nat.le_refl _
 | k + 1, h => by
  have ih := textTo_len (nm := nm) (L := L) (k := k) (fun i hi => h i (by omega))
  have := nt_len (h k (by omega))
  unfold textTo
  rw [List.length_append]; omega
def DeedOk (m : Nat) (L : List Int) : Prop := ∀ i, i < 3 → okN (L.getD i 0) ∧ (m ≤ i → L.getD i 0 = 0)
instance (m : Nat) (L : List Int) : Decidable (DeedOk m L) := inferInstanceAs (Decidable (∀ i, i < 3 → _))
def deedText (nm : List UInt8) (m : Nat) (L : List Int) : List UInt8 := if DeedOk m L then textTo nm L m else []
def kindText (k a b c : Int) : List UInt8 := if 0 ≤ k ∧ k ≤ 5 then deedText (deedNames.getD k.toNat []) (deedNumbers.getD k.toNat 0).toNat [a, b, c] else []
theorem geti_getD' {α : Type} {xs : List α} {k : Nat} {d x : α} (h : geti xs (k : Int) = some x) : xs.getD k d = x := by
 rw [geti_nat] at h
 rw [List.getD_eq_getElem?_getD, h]; rfl
theorem specName_eq {i : Nat} (h : i < 6) : spec_l7NameS (i : Int) = geti deedNames (i : Int) := by
 unfold spec_l7NameS
 obtain ⟨nm, m, h1, _⟩ := kind_facts h
 rw [l1In_eq, Option.bind_some, decide_eq_true (show (0 : Int) ≤ (i : Int) ∧ (i : Int) ≤ 5 by omega), if_neg (by simp)]
 show (geti deedNames (i : Int)).bind _ = _
 rw [h1]; rfl
theorem specMany_eq {i : Nat} (h : i < 6) : spec_l7ManyS (i : Int) = geti deedNumbers (i : Int) := by
 obtain ⟨nm, m, h1, h2, _⟩ := kind_facts h
 show (geti deedNumbers (i : Int)).bind _ = _
 rw [h2]; rfl
theorem specName_out {k : Int} (h : ¬ (0 ≤ k ∧ k ≤ 5)) : spec_l7NameS k = some [] := by
 unfold spec_l7NameS
 rw [l1In_eq, Option.bind_some, decide_eq_false h]; rfl
theorem specDeed_eq (k a b c : Int) : spec_DeedTextS k a b c = some (kindText k a b c) := by
 unfold spec_DeedTextS kindText
 by_cases hk : 0 ≤ k ∧ k ≤ 5
 ·obtain ⟨i, rfl⟩ : ∃ i : Nat, k = i := ⟨k.toNat, by omega⟩
  have hi : i < 6 := by omega
  obtain ⟨nm, m, h1, h2, hne, hnl, hm3⟩ := kind_facts hi
  rw [specName_eq hi, h1, Option.bind_some, if_neg (by simpa using hne), Option.bind_some, if_pos hk, show ((i : Nat) : Int).toNat = i from rfl, geti_getD' h1, geti_getD' h2, show ((m : Nat) : Int).toNat = m from rfl]
  simp only [specMany_eq hi, h2, Option.bind_some]
  have hL : [a, b, c].length = 3 := rfl
  generalize [a, b, c] = L at hL ⊢
  unfold deedText
  refine Ret.eq (Ret.loopb (fun s => ∃ k : Nat, s = (textTo nm L (min k m), (k : Int)) ∧ k ≤ 3 ∧ ∀ i, i < k → okN (L.getD i 0) ∧ (m ≤ i → L.getD i 0 = 0)) (fun s => 3 - s.2.toNat)
   (fun r => (r = .inl (textTo nm L m) ∧ DeedOk m L) ∨ (r = .inr [] ∧ ¬ DeedOk m L)) ⟨0, by simp [textTo], by omega, fun i hi => by omega⟩ ?_ (fun r hr => ?_))
  ·rintro s ⟨k, rfl, hk3, hp⟩
   (try dsimp only)
   by_cases hk : k < 3
   ·rw [if_pos (by simp; omega), geti_getD (show k < L.length by omega), Option.bind_some, l1In_eq, Option.bind_some]
    have hmk : decide ((k : Int) ≥ (m : Int)) = decide (m ≤ k) := by rw [Bool.eq_iff_iff, decide_eq_true_eq, decide_eq_true_eq]; omega
    rw [hmk]
    by_cases ho : okN (L.getD k 0)
    ·rw [decide_eq_true (show 0 ≤ L.getD k 0 ∧ L.getD k 0 ≤ 999 from ho), if_neg (by simp)]
     by_cases hmk : m ≤ k
     ·rw [decide_eq_true hmk, if_pos rfl, Option.bind_some, Option.bind_some, Option.bind_some]
      by_cases hz : L.getD k 0 = 0
      ·rw [hz, if_neg (by simp), if_neg (by simp; omega)]
       have e1 : min (k + 1) m = min k m := by omega
       refine Ret.pure ⟨⟨k + 1, by rw [e1, wr_succ (n := 3) (by omega) hk], by omega, fun i hi => ?_⟩, by dsimp only; rw [wr_succ (n := 3) (by omega) hk]; omega⟩
       rcases Nat.lt_or_ge i k with h | h
       ·exact hp i h
       ·have : i = k := by omega
        subst this
        exact ⟨ho, fun _ => hz⟩
      ·rw [if_pos (by simpa using hz)]
       exact Ret.pure (.inr ⟨rfl, fun hd => hz ((hd k hk).2 hmk)⟩)
     ·rw [decide_eq_false hmk, if_neg (by simp), Option.bind_some, Option.bind_some, if_neg (by simp), if_pos (by simp; omega)]
      have e0 : min k m = k := by omega
      have e1 : min (k + 1) m = k + 1 := by omega
      have hlen := textTo_len (nm := nm) (L := L) (k := k) (fun i hi => (hp i hi).1)
      have hd := digits_len (n := (L.getD k 0).toNat) (by unfold okN at ho; omega)
      rw [e0, strAdd_le (by simp only [List.length_append, List.length_cons, List.length_nil]; omega), Option.bind_some, show L.getD k 0 = (((L.getD k 0).toNat : Nat) : Int) by unfold okN at ho; omega, Option.bind_some, number_eq (by unfold okN at ho; omega), Option.bind_some, strAdd_le (by simp only [List.length_append, List.length_cons, List.length_nil]; omega), Option.bind_some]
      refine Ret.pure ⟨⟨k + 1, ?_, by omega, fun i hi => ?_⟩, by dsimp only; rw [wr_succ (n := 3) (by omega) hk]; omega⟩
      ·rw [e1, wr_succ (n := 3) (by omega) hk]
       simp only [textTo, nt, List.append_assoc, List.cons_append, List.nil_append]
      ·rcases Nat.lt_or_ge i k with h | h
       ·exact hp i h
       ·have : i = k := by omega
        subst this
        exact ⟨ho, fun h => absurd h hmk⟩
    ·rw [decide_eq_false (show ¬ (0 ≤ L.getD k 0 ∧ L.getD k 0 ≤ 999) from ho), if_pos (by simp), Option.bind_some, if_pos rfl]
     exact Ret.pure (.inr ⟨rfl, fun hd => ho (hd k hk).1⟩)
   ·have : k = 3 := by omega
    subst this
    rw [if_neg (by simp; omega)]
    refine Ret.pure (.inl ⟨?_, fun i hi => hp i hi⟩)
    rw [show min 3 m = m by omega]
  ·rcases hr with ⟨rfl, h⟩ | ⟨rfl, h⟩
   ·rw [if_pos h]; exact Ret.pure rfl
   ·rw [if_neg h]; exact Ret.pure rfl
 ·rw [specName_out hk, Option.bind_some, if_pos (by simp), if_neg hk]
theorem implNamed_eq {i : Nat} (hi : i < 6) {m : Nat} (h2 : geti deedNumbers (i : Int) = some (m : Int)) (hm3 : m ≤ 3) (a b c : Int) : impl_onlyNamedS (i : Int) a b c = some (([a, b, c].drop m).all fun x => x == 0) := by
 unfold impl_onlyNamedS
 rw [if_neg (by simp only [Bool.or_eq_true, decide_eq_true_eq]; omega), h2, Option.bind_some]
 have hs : subO ([a, b, c] : List Int) (m : Int) (List.length ([a, b, c] : List Int) : Int) = some ([a, b, c].drop m) := by
  unfold subO
  rw [if_pos (by simp; omega)]
  simp
 rw [hs, Option.bind_some, loopList ([a, b, c].drop m) (fun _ x => x == 0)]
 ·rw [Option.bind_some, allI_all]
  generalize (([a, b, c].drop m).all fun x => x == 0) = q
  cases q <;> rfl
 ·intro k hk
  (try dsimp only)
  have hl : ([a, b, c].drop m).length ≤ 3 := by simp
  rw [if_pos (lt_dec hk), geti_lt' hk, Option.bind_some, wr_succ (n := ([a, b, c].drop m).length) (by omega) hk]
  by_cases h0 : ([a, b, c].drop m)[k] = 0
  ·rw [if_neg (by simpa using h0), if_pos (by simpa using h0)]
  ·rw [if_pos (by simpa using h0), if_neg (by simpa using h0)]
 ·(try dsimp only)
  rw [if_neg (by simp)]
theorem drop_zero {L : List Int} (hL : L.length = 3) {m : Nat} : ((L.drop m).all fun x => x == 0) = true ↔ ∀ i, i < 3 → m ≤ i → L.getD i 0 = 0 := by
 rw [List.all_eq_true]
 constructor
 ·intro h i hi hm
  have h1 : L.getD i 0 ∈ L.drop m := by
   rw [getD_lt (by omega)]
   exact List.mem_drop_iff_getElem.2 ⟨i - m, by omega, by simp [show m + (i - m) = i by omega]⟩
  simpa using h _ h1
 ·intro h x hx
  obtain ⟨j, hj, rfl⟩ := List.mem_drop_iff_getElem.1 hx
  have := h (m + j) (by omega) (by omega)
  rw [getD_lt (by omega)] at this
  simpa using this
theorem implDeed_eq (k a b c : Int) : impl_DeedTextS k a b c = some (kindText k a b c) := by
 unfold impl_DeedTextS kindText
 by_cases hk : 0 ≤ k ∧ k ≤ 5
 ·obtain ⟨i, rfl⟩ : ∃ i : Nat, k = i := ⟨k.toNat, by omega⟩
  have hi : i < 6 := by omega
  obtain ⟨nm, m, h1, h2, hne, hnl, hm3⟩ := kind_facts hi
  rw [implNamed_eq hi h2 hm3, Option.bind_some, if_pos hk, show ((i : Nat) : Int).toNat = i from rfl, geti_getD' h1, geti_getD' h2, show ((m : Nat) : Int).toNat = m from rfl, h1, h2]
  simp only [Option.bind_some]
  have hL : [a, b, c].length = 3 := rfl
  generalize [a, b, c] = L at hL ⊢
  unfold deedText
  cases hz : ((L.drop m).all fun x => x == 0)
  ·rw [if_pos (by simp), if_neg]
   intro hd
   have := (drop_zero hL (m := m)).2 fun i hi hm => (hd i hi).2 hm
   rw [this] at hz; cases hz
  ·have hz' := (drop_zero hL).1 hz
   have hs : subO L 0 (m : Int) = some (L.take m) := by
    unfold subO
    rw [if_pos (by simp; omega)]
    simp
   rw [if_neg (by simp), hs, Option.bind_some]
   have hlt : (L.take m).length = m := by simp; omega
   have hdk : DeedOk m L ↔ ∀ i, i < m → okN (L.getD i 0) := by
    constructor
    ·intro h i hi; exact (h i (by omega)).1
    ·intro h i hi
     rcases Nat.lt_or_ge i m with h1 | h1
     ·exact ⟨h i h1, fun h2 => by omega⟩
     ·have := hz' i hi h1
      exact ⟨by rw [this]; exact ⟨by omega, by omega⟩, fun _ => this⟩
   have hget : ∀ j, j < m → (L.take m).getD j 0 = L.getD j 0 := by
    intro j hj
    rw [getD_lt (by omega), getD_lt (by omega)]
    simp
   generalize L.take m = T at hlt hget ⊢
   refine Ret.eq (Ret.loopb (fun s => ∃ k : Nat, s = (textTo nm L k, (k : Int)) ∧ k ≤ m ∧ ∀ i, i < k → okN (L.getD i 0)) (fun s => 3 - s.2.toNat)
    (fun r => (r = .inl (textTo nm L m) ∧ DeedOk m L) ∨ (r = .inr [] ∧ ¬ DeedOk m L)) ⟨0, by simp [textTo], by omega, fun i hi => by omega⟩ ?_ (fun r hr => ?_))
   ·rintro s ⟨k, rfl, hkm, hp⟩
    (try dsimp only)
    by_cases hk : k < m
    ·rw [if_pos (by simp; omega), geti_getD (show k < T.length by omega), Option.bind_some, hget k hk]
     by_cases ho : okN (L.getD k 0)
     ·have ho' := ho
      unfold okN at ho'
      have hlen := textTo_len (nm := nm) (L := L) (k := k) (fun i hi => hp i hi)
      have hd := digits_len (n := (L.getD k 0).toNat) (by omega)
      rw [if_neg (by simp only [Bool.or_eq_true, decide_eq_true_eq]; omega), itoa_eq ho'.1 ho'.2, Option.bind_some, strAdd_le (by simp only [List.length_append, List.length_cons, List.length_nil]; omega), Option.bind_some, strAdd_le (by simp only [List.length_append, List.length_cons, List.length_nil]; omega), Option.bind_some]
      refine Ret.pure ⟨⟨k + 1, ?_, by omega, fun i hi => ?_⟩, by dsimp only; rw [wr_succ (n := 3) (by omega) (by omega)]; omega⟩
      ·rw [wr_succ (n := 3) (by omega) (by omega)]
       simp only [textTo, nt, List.append_assoc, List.cons_append, List.nil_append]
      ·rcases Nat.lt_or_ge i k with h | h
       ·exact hp i h
       ·have : i = k := by omega
        subst this
        exact ho
     ·rw [if_pos (by unfold okN at ho; simp only [Bool.or_eq_true, decide_eq_true_eq]; omega)]
      exact Ret.pure (.inr ⟨rfl, fun hd => ho (hdk.1 hd k hk)⟩)
    ·have : k = m := by omega
     subst this
     rw [if_neg (by simp; omega)]
     exact Ret.pure (.inl ⟨rfl, hdk.2 hp⟩)
   ·rcases hr with ⟨rfl, h⟩ | ⟨rfl, h⟩
    ·rw [if_pos h]; exact Ret.pure rfl
    ·rw [if_neg h]; exact Ret.pure rfl
 ·have : impl_onlyNamedS k a b c = some false := by
   unfold impl_onlyNamedS
   rw [if_pos (by simp only [Bool.or_eq_true, decide_eq_true_eq]; omega)]
  rw [this, Option.bind_some, if_pos (by simp), if_neg hk]
end Go.Proofs.YtkhnponakhabdaaGreatDoor
set_option linter.unusedVariables false
namespace Go.Proofs.YtkhnponakhabdaaGreatDoor
open Go Go.RowKit
def pieces (c : UInt8) : List UInt8 → List (List UInt8)
 | [] => [[]]
 | b :: l => if b = c then [] :: pieces c l else (b :: (pieces c l).head!) :: (pieces c l).tail
theorem pieces_eq (c b : UInt8) (l : List UInt8) : pieces c (b :: l) = if b = c then [] :: pieces c l else (b :: (pieces c l).head!) :: (pieces c l).tail := rfl
theorem pieces_ne (c : UInt8) : ∀ l, pieces c l ≠ []
 | [] => by simp [pieces]
 | b :: l => by rw [pieces_eq]; split <;> simp
theorem pieces_none {c : UInt8} : ∀ {l : List UInt8}, c ∉ l → pieces c l = [l]
 | [], _ => rfl
 | b :: l, h => by
  have h1 : ¬ b = c := fun e => h (e ▸ List.mem_cons_self)
  have h2 := pieces_none (l := l) (fun e => h (List.mem_cons_of_mem _ e))
  rw [pieces_eq, if_neg h1, h2]; rfl
theorem pieces_cons {c : UInt8} : ∀ {w : List UInt8} (l : List UInt8), c ∉ w → pieces c (w ++ c :: l) = w :: pieces c l
 | [], l, _ => by
  show pieces c (c :: l) = _
  rw [pieces_eq, if_pos rfl]
 | b :: w, l, h => by
  have h1 : ¬ b = c := fun e => h (e ▸ List.mem_cons_self)
  have h2 := pieces_cons (w := w) l (fun e => h (List.mem_cons_of_mem _ e))
  show pieces c (b :: (w ++ c :: l)) = _
  rw [pieces_eq, if_neg h1, h2]; rfl
def joinW (c : UInt8) : List (List UInt8) → List UInt8
 | [] => []
 | w :: ws => w ++ (ws.map (c :: ·)).flatten
theorem joinW_cons (c : UInt8) (w w2 : List UInt8) (ws : List (List UInt8)) : joinW c (w :: w2 :: ws) = w ++ c :: joinW c (w2 :: ws) := by simp [joinW]
theorem pieces_join {c : UInt8} : ∀ {ws : List (List UInt8)}, ws ≠ [] → (∀ w ∈ ws, c ∉ w) → pieces c (joinW c ws) = ws
 | [], h, _ => absurd rfl h
 | [w], _, h => by
  have := pieces_none (h w (by simp))
  simpa [joinW] using this
 | w :: w2 :: ws, _, h => by
  rw [joinW_cons, pieces_cons _ (h w (by simp)), pieces_join (by simp) (fun x hx => h x (by simp at hx ⊢; exact .inr hx))]
theorem join_pieces (c : UInt8) : ∀ l, joinW c (pieces c l) = l
 | [] => rfl
 | b :: l => by
  have ih := join_pieces c l
  have hne := pieces_ne c l
  rw [pieces_eq]
  generalize pieces c l = p at ih hne
  cases p with
  | nil => exact absurd rfl hne
  | cons w ws =>
   split
   ·rename_i h
    rw [joinW_cons, ih, h]; rfl
   ·show joinW c ((b :: w) :: ws) = _
    rw [← ih]; rfl
theorem pieces_mem {c : UInt8} : ∀ {l w : List UInt8}, w ∈ pieces c l → c ∉ w
 | [], w, h => by simp [pieces] at h; rw [h]; simp
 | b :: l, w, h => by
  have hne := pieces_ne c l
  have ih := fun w (h : w ∈ pieces c l) => pieces_mem (w := w) h
  rw [pieces_eq] at h
  generalize pieces c l = p at ih hne h
  cases p with
  | nil => exact absurd rfl hne
  | cons v vs =>
   split at h
   ·rcases List.mem_cons.1 h with rfl | h
    ·simp
    ·exact ih w h
   ·rename_i hb
    rcases List.mem_cons.1 h with rfl | h
    ·intro hc
     rcases List.mem_cons.1 hc with hc | hc
     ·exact hb hc.symm
     ·exact ih v (by simp) hc
    ·exact ih w (by simp at h ⊢; exact .inr h)
theorem pieces_length (c : UInt8) : ∀ l, (pieces c l).length ≤ l.length + 1
 | [] => by simp [pieces]
 | b :: l => by
  have ih := pieces_length c l
  rw [pieces_eq]
  split
  ·simp; omega
  ·simp; omega
theorem indexByte_pieces (c : UInt8) : ∀ s : List UInt8, (Lib.indexByte s c = -1 ∧ pieces c s = [s]) ∨ ∃ i : Nat, Lib.indexByte s c = i ∧ i < s.length ∧ pieces c s = s.take i :: pieces c (s.drop (i + 1))
 | [] => .inl ⟨rfl, rfl⟩
 | b :: l => by
  rw [pieces_eq]
  unfold Lib.indexByte
  by_cases hb : b = c
  ·rw [if_pos (by simpa using hb), if_pos hb]
   exact .inr ⟨0, rfl, by simp, by simp⟩
  ·rw [if_neg (by simpa using hb), if_neg hb]
   rcases indexByte_pieces c l with ⟨h1, h2⟩ | ⟨i, h1, h2, h3⟩
   ·left
    rw [h1, h2]; exact ⟨rfl, rfl⟩
   ·right
    refine ⟨i + 1, ?_, by simp; omega, ?_⟩
    ·rw [h1, if_neg (by simp)]; omega
    ·rw [h3]; rfl
theorem splitK_pieces (c : UInt8) : ∀ (fuel : Nat) (s : List UInt8), s.length < fuel → Lib.splitK [c] 0 (Lib.countFrom [c] fuel s) s = pieces c s
 | 0, s, h => by omega
 | fuel + 1, s, h => by
  unfold Lib.countFrom
  rw [Lib.index_one]
  rcases indexByte_pieces c s with ⟨h1, h2⟩ | ⟨i, h1, h2, h3⟩
  ·rw [h1, if_pos (by rfl), h2]; rfl
  ·rw [h1, if_neg (by simp)]
   have hi : ((i : Nat) : Int).toNat = i := rfl
   rw [hi, Nat.add_comm 1]
   unfold Lib.splitK
   rw [Lib.index_one, h1, if_neg (by simp), hi, h3]
   have := splitK_pieces c fuel (s.drop (i + 1)) (by simp; omega)
   simp only [List.length_cons, List.length_nil, Nat.zero_add, Nat.add_zero]
   rw [this]
theorem split_eq (s : List UInt8) (c : UInt8) (h : s.length < 4294967281) : strings_SplitS s [c] = some (pieces c s) := by
 unfold strings_SplitS
 rw [if_pos ⟨h, by simp⟩, Lib.splitB_data]
 congr 1
 exact splitK_pieces c (s.length + 1) s (by omega)
theorem take_drop_mem {α : Type} {s : List α} {c : α} {i k : Nat} (h : ∀ j (hj : j < s.length), i ≤ j → j < k → s[j] ≠ c) : c ∉ (s.take k).drop i := by
 intro hm
 obtain ⟨j, hj, he⟩ := List.mem_drop_iff_getElem.1 hm
 simp only [List.length_take] at hj
 have := h (i + j) (by omega) (by omega) (by omega)
 simp at he
 exact this he
theorem byteAt_lt {s : List UInt8} {k : Nat} (h : k < s.length) : byteAt s (k : Int) = some (((s[k]).toNat : Nat) : Int) := by
 unfold byteAt; rw [geti_lt' h]; rfl
theorem byte_eq (b c : UInt8) : ((((b.toNat : Nat) : Int)) == ((c.toNat : Nat) : Int)) = decide (b = c) := by
 rw [Bool.eq_iff_iff, beq_iff_eq, decide_eq_true_eq]
 constructor
 ·intro h
  exact UInt8.toNat_inj.1 (by omega)
 ·rintro rfl; rfl
theorem cut_eq (s : List UInt8) (c : UInt8) (h : s.length ≤ 1048576) : spec_l1CutS s ((c.toNat : Nat) : Int) = some (pieces c s) := by
 unfold spec_l1CutS
 refine Ret.eq (Ret.loopb (fun t => ∃ (out : List (List UInt8)) (i k : Nat), t = (out, (i : Int), (k : Int)) ∧ i ≤ k ∧ k ≤ s.length ∧ out.length ≤ k ∧ pieces c s = out ++ pieces c (s.drop i) ∧ ∀ j (hj : j < s.length), i ≤ j → j < k → s[j] ≠ c) (fun t => s.length - t.2.2.toNat)
  (fun r => ∃ (out : List (List UInt8)) (i : Nat), r = (out, (i : Int)) ∧ i ≤ s.length ∧ out.length ≤ s.length ∧ pieces c s = out ++ [s.drop i]) ⟨[], 0, 0, rfl, by omega, by omega, by simp, by simp, fun j hj h1 h2 => by omega⟩ ?_ ?_)
 ·rintro t ⟨out, i, k, rfl, hik, hks, hol, hp, hno⟩
  (try dsimp only)
  by_cases hk : k < s.length
  ·rw [if_pos (lt_dec hk), byteAt_lt hk, Option.bind_some, byte_eq, wr_succ (n := s.length) (by omega) hk]
   by_cases hc : s[k] = c
   ·rw [decide_eq_true hc, if_pos rfl]
    have hs : subO s (i : Int) (k : Int) = some ((s.take k).drop i) := by
     unfold subO; rw [if_pos (by simp; omega)]; simp
    rw [hs, Option.bind_some, appO_le (by simp; omega), Option.bind_some]
    refine Ret.pure ⟨⟨_, k + 1, k + 1, rfl, by omega, by omega, by simp; omega, ?_, fun j hj h1 h2 => by omega⟩, by dsimp only; omega⟩
    have e : s.drop i = (s.take k).drop i ++ c :: s.drop (k + 1) := by
     have e1 : s = s.take k ++ c :: s.drop (k + 1) := by
      rw [← hc]
      have := List.take_append_drop k s
      rw [List.drop_eq_getElem_cons hk] at this
      exact this.symm
     conv => lhs; rw [e1]
     rw [List.drop_append_of_le_length (by simp; omega)]
    rw [hp, e, pieces_cons _ (take_drop_mem hno)]
    simp
   ·rw [decide_eq_false hc, if_neg (by simp)]
    refine Ret.pure ⟨⟨out, i, k + 1, rfl, by omega, by omega, by omega, hp, fun j hj h1 h2 => ?_⟩, by dsimp only; omega⟩
    rcases Nat.lt_or_ge j k with h3 | h3
    ·exact hno j hj h1 h3
    ·have : j = k := by omega
     subst this; exact hc
  ·have : k = s.length := by omega
   subst this
   rw [if_neg (by simp)]
   refine Ret.pure ⟨out, i, rfl, by omega, hol, ?_⟩
   have := take_drop_mem hno
   rw [List.take_length] at this
   rw [hp, pieces_none this]
 ·rintro r ⟨out, i, rfl, hi, hol, hp⟩
  (try dsimp only)
  have hs : subO s (i : Int) (s.length : Int) = some (s.drop i) := by
   unfold subO; rw [if_pos (by simp; omega)]; simp
  rw [hs, Option.bind_some, appO_le (by simp; omega), Option.bind_some]
  exact Ret.pure hp.symm
end Go.Proofs.YtkhnponakhabdaaGreatDoor
set_option linter.unusedVariables false
namespace Go.Proofs.YtkhnponakhabdaaGreatDoor
open Go Go.RowKit
def val (w : List UInt8) : Nat := w.foldl (fun v b => v * 10 + (b.toNat - 48)) 0
theorem val_snoc (w : List UInt8) (b : UInt8) : val (w ++ [b]) = val w * 10 + (b.toNat - 48) := by unfold val; rw [List.foldl_append]; rfl
def Dg (w : List UInt8) : Prop := ∀ b ∈ w, 48 ≤ b.toNat ∧ b.toNat ≤ 57
theorem Dg.snoc {w : List UInt8} {b : UInt8} (h : Dg (w ++ [b])) : Dg w ∧ 48 ≤ b.toNat ∧ b.toNat ≤ 57 := ⟨fun x hx => h x (by simp [hx]), h b (by simp)⟩
theorem val_lt : ∀ (n : Nat) (w : List UInt8), w.length = n → Dg w → val w < 10 ^ n
 | 0, w, hl, _ => by rw [List.eq_nil_of_length_eq_zero hl]; decide
 | n + 1, w, hl, hd => by
  rcases List.eq_nil_or_concat w with rfl | ⟨w', b, rfl⟩
  ·simp at hl
  ·rw [List.concat_eq_append] at *
   obtain ⟨h1, h2⟩ := hd.snoc
   have ih := val_lt n w' (by simpa using hl) h1
   rw [val_snoc, Nat.pow_succ]; omega
theorem val_pos : ∀ (n : Nat) (w : List UInt8), w.length = n + 1 → Dg w → w.head? ≠ some 48 → 1 ≤ val w
 | 0, w, hl, hd, hh => by
  obtain ⟨b, rfl⟩ := List.length_eq_one_iff.1 hl
  have h1 := hd b (by simp)
  have h2 : b.toNat ≠ 48 := fun e => hh (by simp; exact UInt8.toNat_inj.1 e)
  show 1 ≤ 0 * 10 + (b.toNat - 48)
  omega
 | n + 1, w, hl, hd, hh => by
  rcases List.eq_nil_or_concat w with rfl | ⟨w', b, rfl⟩
  ·simp at hl
  ·rw [List.concat_eq_append] at *
   obtain ⟨h1, h2⟩ := hd.snoc
   have hl' : w'.length = n + 1 := by simpa using hl
   have hh' : w'.head? ≠ some 48 := by
    cases w' with
    | nil => simp at hl'
    | cons x xs => simpa using hh
   have ih := val_pos n w' hl' h1 hh'
   rw [val_snoc]; omega
theorem byte_of {b : UInt8} {n : Nat} (h : b.toNat = n) (hn : n < 256) : UInt8.ofNat n = b := by
 apply UInt8.toNat_inj.1
 rw [h]; simp; omega
theorem num_dec : ∀ (n : Nat) (w : List UInt8), w.length = n + 1 → Dg w → (1 < w.length → w.head? ≠ some 48) → Lib.decDigits (val w) = w
 | 0, w, hl, hd, _ => by
  obtain ⟨b, rfl⟩ := List.length_eq_one_iff.1 hl
  have h1 := hd b (by simp)
  have e : val [b] = b.toNat - 48 := by show 0 * 10 + (b.toNat - 48) = _; omega
  rw [e, Lib.decDigits_one (by omega), byte_of (b := b) (by omega) (by omega)]
 | n + 1, w, hl, hd, hh => by
  rcases List.eq_nil_or_concat w with rfl | ⟨w', b, rfl⟩
  ·simp at hl
  ·rw [List.concat_eq_append] at *
   obtain ⟨h1, h2⟩ := hd.snoc
   have hl' : w'.length = n + 1 := by simpa using hl
   have hh' : w'.head? ≠ some 48 := by
    have := hh (by simp; omega)
    cases w' with
    | nil => simp at hl'
    | cons x xs => simpa using this
   have hp := val_pos n w' hl' h1 hh'
   have ih := num_dec n w' hl' h1 (fun _ => hh')
   rw [val_snoc, Lib.decDigits, dif_neg (by omega)]
   rw [show (val w' * 10 + (b.toNat - 48)) / 10 = val w' by omega, show (val w' * 10 + (b.toNat - 48)) % 10 = b.toNat - 48 by omega, ih, byte_of (b := b) (by omega) (by omega)]
theorem ofNat_toNat {n : Nat} (h : n < 256) : (UInt8.ofNat n).toNat = n := by simp; omega
theorem dec_num : ∀ (k n : Nat), n ≤ k → Lib.decDigits n ≠ [] ∧ Dg (Lib.decDigits n) ∧ val (Lib.decDigits n) = n ∧ (1 ≤ n → (Lib.decDigits n).head? ≠ some 48) := by
 intro k
 induction k with
 | zero =>
  intro n hn
  have : n = 0 := by omega
  subst this
  rw [Lib.decDigits_one (by omega)]
  exact ⟨by simp, fun b hb => by simp at hb; subst hb; decide, rfl, fun h => by omega⟩
 | succ k ih =>
  intro n hn
  by_cases h10 : n < 10
  ·rw [Lib.decDigits_one h10]
   have e := ofNat_toNat (n := 48 + n) (by omega)
   refine ⟨by simp, fun b hb => ?_, ?_, fun h1 hh => ?_⟩
   ·simp only [List.mem_singleton] at hb
    subst hb
    omega
   ·show 0 * 10 + ((UInt8.ofNat (48 + n)).toNat - 48) = n
    omega
   ·simp only [List.head?_cons, Option.some.injEq] at hh
    rw [hh] at e
    have : (48 : UInt8).toNat = 48 := rfl
    omega
  ·obtain ⟨i1, i2, i3, i4⟩ := ih (n / 10) (by omega)
   have e := ofNat_toNat (n := 48 + n % 10) (by omega)
   rw [Lib.decDigits, dif_neg h10]
   refine ⟨by simp, fun b hb => ?_, ?_, fun h1 => ?_⟩
   ·rcases List.mem_append.1 hb with h | h
    ·exact i2 b h
    ·simp only [List.mem_singleton] at h
     subst h; omega
   ·rw [val_snoc, i3]; omega
   ·have h4 := i4 (by omega)
    generalize Lib.decDigits (n / 10) = l at i1 h4 ⊢
    cases l with
    | nil => exact absurd rfl i1
    | cons x xs => simpa using h4
theorem dec_no {n : Nat} {c : UInt8} (hc : c.toNat < 48) : c ∉ Lib.decDigits n := fun h => by
 have := (dec_num n n (Nat.le_refl _)).2.1 c h
 omega
def IsNum (m : Nat) (w : List UInt8) : Prop := (1 ≤ w.length ∧ w.length ≤ m) ∧ Dg w ∧ (1 < w.length → w.head? ≠ some 48)
theorem isNum_dec {m : Nat} {w : List UInt8} (h : IsNum m w) : Lib.decDigits (val w) = w := num_dec (w.length - 1) w (by have := h.1; omega) h.2.1 h.2.2
theorem dec_isNum {n : Nat} (h : n < 1000) {m : Nat} (hm : 3 ≤ m) : IsNum m (Lib.decDigits n) := by
 obtain ⟨h1, h2, h3, h4⟩ := dec_num n n (Nat.le_refl _)
 have hl := digits_len h
 have h5 : 0 < (Lib.decDigits n).length := List.length_pos_iff.2 h1
 refine ⟨⟨by omega, by omega⟩, h2, fun hgt => h4 ?_⟩
 rcases Nat.eq_zero_or_pos n with h0 | h0
 ·subst h0
  rw [Lib.decDigits_one (by omega)] at hgt
  simp at hgt
 ·exact h0
theorem head_byte {w : List UInt8} (h : 0 < w.length) : byteAt w 0 = some (((w[0]).toNat : Nat) : Int) := byteAt_lt (k := 0) h
theorem head48 {w : List UInt8} (h : 0 < w.length) : ((((w[0]).toNat : Nat) : Int) == 48) = decide (w.head? = some 48) := by
 rw [Bool.eq_iff_iff, beq_iff_eq, decide_eq_true_eq, List.head?_eq_getElem?, List.getElem?_eq_getElem h, Option.some.injEq]
 constructor
 ·intro e
  apply UInt8.toNat_inj.1
  show _ = 48
  omega
 ·intro e; rw [e]; rfl
theorem digit_val {b : UInt8} (h : 48 ≤ b.toNat ∧ b.toNat ≤ 57) : IntKind.wrap .i64 (IntKind.wrap .u8 (((b.toNat : Nat) : Int) - 48)) = ((b.toNat - 48 : Nat) : Int) := by
 rw [show ((b.toNat : Nat) : Int) - 48 = ((b.toNat - 48 : Nat) : Int) by omega, wr8 (by omega), wrn (by omega)]
instance (m : Nat) (w : List UInt8) : Decidable (IsNum m w) := by
 unfold IsNum Dg
 exact inferInstance
theorem take_val {w : List UInt8} {k : Nat} (h : k < w.length) : val (w.take (k + 1)) = val (w.take k) * 10 + ((w[k]).toNat - 48) := by
 rw [List.take_succ_eq_append_getElem h, val_snoc]
end Go.Proofs.YtkhnponakhabdaaGreatDoor
set_option linter.unusedVariables false
namespace Go.Proofs.YtkhnponakhabdaaGreatDoor
open Go Go.RowKit
theorem lead_eq (w : List UInt8) : (if decide ((w.length : Int) > 1) = true then ((byteAt w 0).bind fun x1 => some (x1 == 48)) else some false) = some (!decide (1 < w.length → w.head? ≠ some 48)) := by
 by_cases h1 : 1 < w.length
 ·rw [if_pos (by simp; omega), head_byte (by omega), Option.bind_some, head48 (by omega)]
  congr 1
  by_cases h : w.head? = some 48
  ·rw [decide_eq_true h, decide_eq_false (fun hh => hh h1 h)]; rfl
  ·rw [decide_eq_false h, decide_eq_true (fun _ => h)]; rfl
 ·rw [if_neg (by simp; omega), decide_eq_true (fun h => absurd h h1)]; rfl
theorem Dg.take_succ {w : List UInt8} {k : Nat} (h : k < w.length) (hd : Dg (w.take k)) (hb : 48 ≤ (w[k]).toNat ∧ (w[k]).toNat ≤ 57) : Dg (w.take (k + 1)) := by
 rw [List.take_succ_eq_append_getElem h]
 intro b hm
 rcases List.mem_append.1 hm with hm | hm
 ·exact hd b hm
 ·rw [List.mem_singleton.1 hm]; exact hb
theorem p105 {k : Nat} (h : k ≤ 5) : 10 ^ k ≤ 100000 := Nat.le_trans (Nat.pow_le_pow_right (by omega) h) (by decide)
theorem readNumber_m {m : Nat} (hm : m ≤ 5) (w : List UInt8) : impl_readNumberS w (m : Int) = some (if IsNum m w then (((val w : Nat) : Int), true) else (0, false)) := by
 unfold impl_readNumberS
 rw [lead_eq]
 by_cases hl : 1 ≤ w.length ∧ w.length ≤ m
 ·rw [if_neg (by simp only [Bool.or_eq_true, decide_eq_true_eq]; omega), Option.bind_some, Option.bind_some]
  by_cases hh : 1 < w.length → w.head? ≠ some 48
  ·rw [decide_eq_true hh, if_neg (by simp)]
   refine Ret.eq (Ret.loopb (fun s => ∃ k : Nat, s = (((val (w.take k) : Nat) : Int), (k : Int)) ∧ k ≤ w.length ∧ Dg (w.take k)) (fun s => w.length - s.2.toNat)
    (fun r => (r = .inl ((val w : Nat) : Int) ∧ Dg w) ∨ (r = .inr (0, false) ∧ ¬ Dg w)) ⟨0, by simp [val], by omega, by simp [Dg]⟩ ?_ (fun r hr => ?_))
   ·rintro s ⟨k, rfl, hk, hd⟩
    (try dsimp only)
    by_cases hkl : k < w.length
    ·rw [if_pos (lt_dec hkl), byteAt_lt hkl, Option.bind_some]
     by_cases hb : 48 ≤ (w[k]).toNat ∧ (w[k]).toNat ≤ 57
     ·rw [if_neg (by simp; omega), Option.bind_some, Option.bind_some, if_neg (by simp; omega), Option.bind_some, digit_val hb]
      have hv := val_lt k (w.take k) (by simp; omega) hd
      have hp := p105 (k := k) (by omega)
      rw [show ((val (w.take k) : Nat) : Int) * 10 = ((val (w.take k) * 10 : Nat) : Int) by omega, wrn (by omega), show ((val (w.take k) * 10 : Nat) : Int) + (((w[k]).toNat - 48 : Nat) : Int) = ((val (w.take k) * 10 + ((w[k]).toNat - 48) : Nat) : Int) by omega, wrn (by omega), wr_succ (n := w.length) (by omega) hkl, ← take_val hkl]
      exact Ret.pure ⟨⟨k + 1, rfl, by omega, hd.take_succ hkl hb⟩, by dsimp only; omega⟩
     ·have hnd : ¬ Dg w := fun h => hb (h _ (List.getElem_mem hkl))
      by_cases h48 : (w[k]).toNat < 48
      ·rw [if_pos (by simp; omega), Option.bind_some, if_pos rfl]
       exact Ret.pure (.inr ⟨rfl, hnd⟩)
      ·rw [if_neg (by simp; omega), Option.bind_some, Option.bind_some, if_pos (by simp; omega)]
       exact Ret.pure (.inr ⟨rfl, hnd⟩)
    ·have : k = w.length := by omega
     subst this
     rw [if_neg (by simp)]
     rw [List.take_length] at hd ⊢
     exact Ret.pure (.inl ⟨rfl, hd⟩)
   ·rcases hr with ⟨rfl, h⟩ | ⟨rfl, h⟩
    ·rw [if_pos (show IsNum m w from ⟨hl, h, hh⟩)]; exact Ret.pure rfl
    ·rw [if_neg (fun hn : IsNum m w => h hn.2.1)]; exact Ret.pure rfl
  ·rw [decide_eq_false hh, if_pos (by simp), if_neg (fun hn : IsNum m w => hh hn.2.2)]
 ·rw [if_pos (by simp only [Bool.or_eq_true, decide_eq_true_eq]; omega), Option.bind_some, if_pos rfl, if_neg (fun hn : IsNum m w => hl hn.1)]
theorem readNumber_eq (w : List UInt8) : impl_readNumberS w 3 = some (if IsNum 3 w then (((val w : Nat) : Int), true) else (0, false)) := readNumber_m (m := 3) (by omega) w
theorem read_eq (w : List UInt8) : spec_l1ReadS w = some (if IsNum 5 w then ((val w : Nat) : Int) else -1) := by
 unfold spec_l1ReadS
 rw [lead_eq, l1In_eq, Option.bind_some]
 by_cases hl : 1 ≤ w.length ∧ w.length ≤ 5
 ·rw [decide_eq_true (show (1 : Int) ≤ (w.length : Int) ∧ (w.length : Int) ≤ 5 by omega), if_neg (by simp), Option.bind_some, Option.bind_some]
  by_cases hh : 1 < w.length → w.head? ≠ some 48
  ·rw [decide_eq_true hh, if_neg (by simp)]
   refine Ret.eq (Ret.loopb (fun s => ∃ k : Nat, s = (((val (w.take k) : Nat) : Int), (k : Int)) ∧ k ≤ w.length ∧ Dg (w.take k)) (fun s => w.length - s.2.toNat)
    (fun r => (r = .inl ((val w : Nat) : Int) ∧ Dg w) ∨ (r = .inr (-1) ∧ ¬ Dg w)) ⟨0, by simp [val], by omega, by simp [Dg]⟩ ?_ (fun r hr => ?_))
   ·rintro s ⟨k, rfl, hk, hd⟩
    (try dsimp only)
    by_cases hkl : k < w.length
    ·rw [if_pos (lt_dec hkl), byteAt_lt hkl, Option.bind_some]
     by_cases hb : 48 ≤ (w[k]).toNat ∧ (w[k]).toNat ≤ 57
     ·rw [if_neg (by simp; omega), Option.bind_some, Option.bind_some, if_neg (by simp; omega), Option.bind_some, digit_val hb]
      have hv := val_lt k (w.take k) (by simp; omega) hd
      have hp := p105 (k := k) (by omega)
      rw [show 10 * ((val (w.take k) : Nat) : Int) = ((val (w.take k) * 10 : Nat) : Int) by omega, wrn (by omega), show ((val (w.take k) * 10 : Nat) : Int) + (((w[k]).toNat - 48 : Nat) : Int) = ((val (w.take k) * 10 + ((w[k]).toNat - 48) : Nat) : Int) by omega, wrn (by omega), wr_succ (n := w.length) (by omega) hkl, ← take_val hkl]
      exact Ret.pure ⟨⟨k + 1, rfl, by omega, hd.take_succ hkl hb⟩, by dsimp only; omega⟩
     ·have hnd : ¬ Dg w := fun h => hb (h _ (List.getElem_mem hkl))
      by_cases h48 : (w[k]).toNat < 48
      ·rw [if_pos (by simp; omega), Option.bind_some, if_pos rfl]
       exact Ret.pure (.inr ⟨rfl, hnd⟩)
      ·rw [if_neg (by simp; omega), Option.bind_some, Option.bind_some, if_pos (by simp; omega)]
       exact Ret.pure (.inr ⟨rfl, hnd⟩)
    ·have : k = w.length := by omega
     subst this
     rw [if_neg (by simp)]
     rw [List.take_length] at hd ⊢
     exact Ret.pure (.inl ⟨rfl, hd⟩)
   ·rcases hr with ⟨rfl, h⟩ | ⟨rfl, h⟩
    ·rw [if_pos (show IsNum 5 w from ⟨hl, h, hh⟩)]; exact Ret.pure rfl
    ·rw [if_neg (fun hn : IsNum 5 w => h hn.2.1)]; exact Ret.pure rfl
  ·rw [decide_eq_false hh, if_pos (by simp), if_neg (fun hn : IsNum 5 w => hh hn.2.2)]
 ·rw [decide_eq_false (show ¬ ((1 : Int) ≤ (w.length : Int) ∧ (w.length : Int) ≤ 5) by omega), if_pos (by simp), Option.bind_some, if_pos rfl, if_neg (fun hn : IsNum 5 w => hl hn.1)]
end Go.Proofs.YtkhnponakhabdaaGreatDoor
set_option linter.unusedVariables false
namespace Go.Proofs.YtkhnponakhabdaaGreatDoor
open Go Go.RowKit
def rd (w : List UInt8) : Int := if IsNum 5 w then ((val w : Nat) : Int) else -1
def rdAt (tl : List (List UInt8)) (i : Nat) : Int := match tl[i]? with | some w => rd w | none => 0
theorem rdAt_lt {tl : List (List UInt8)} {i : Nat} (h : i < tl.length) : rdAt tl i = rd tl[i] := by unfold rdAt; rw [List.getElem?_eq_getElem h]
def Lto (tl : List (List UInt8)) (j : Nat) : List Int := [if 0 < j then rdAt tl 0 else 0, if 1 < j then rdAt tl 1 else 0, if 2 < j then rdAt tl 2 else 0]
theorem Lto_set {tl : List (List UInt8)} {j : Nat} (h : j < 3) : (Lto tl j).set j (rdAt tl j) = Lto tl (j + 1) := by
 have hc : j = 0 ∨ j = 1 ∨ j = 2 := by omega
 rcases hc with rfl | rfl | rfl <;> rfl
theorem Lto_get {tl : List (List UInt8)} {j i : Nat} (h : i < 3) : (Lto tl j).getD i 0 = if i < j then rdAt tl i else 0 := by
 have hc : i = 0 ∨ i = 1 ∨ i = 2 := by omega
 rcases hc with rfl | rfl | rfl <;> rfl
theorem Lto_len (tl : List (List UInt8)) (j : Nat) : (Lto tl j).length = 3 := rfl
def nameAt (k : Nat) : List UInt8 := deedNames.getD k []
def kdTo (hd : List UInt8) : Nat → Int
 | 0 => -1
 | k + 1 => if hd = nameAt k then (k : Int) else kdTo hd k
theorem names_ne : ∀ i, i < 6 → ∀ j, j < 6 → nameAt i = nameAt j → i = j := by decide
theorem kdTo_hit {hd : List UInt8} : ∀ {n k : Nat}, k < n → n ≤ 6 → hd = nameAt k → kdTo hd n = (k : Int)
 | n + 1, k, h, hn, he => by
  unfold kdTo
  by_cases h1 : hd = nameAt n
  ·rw [if_pos h1]
   have := names_ne k (by omega) n (by omega) (he ▸ h1)
   rw [this]
  ·rw [if_neg h1]
   have : k ≠ n := fun e => h1 (e ▸ he)
   exact kdTo_hit (by omega) (by omega) he
theorem kdTo_back {hd : List UInt8} : ∀ {n : Nat}, kdTo hd n = -1 ∨ ∃ k, k < n ∧ kdTo hd n = (k : Int) ∧ hd = nameAt k
 | 0 => .inl rfl
 | n + 1 => by
  unfold kdTo
  by_cases h1 : hd = nameAt n
  ·rw [if_pos h1]; exact .inr ⟨n, by omega, rfl, h1⟩
  ·rw [if_neg h1]
   rcases kdTo_back (hd := hd) (n := n) with h | ⟨k, h2, h3, h4⟩
   ·exact .inl h
   ·exact .inr ⟨k, by omega, h3, h4⟩
def readS (s : List UInt8) : (Int × Int × Int × Int) × Bool :=
 let hd := (pieces 32 s).head!; let tl := (pieces 32 s).tail; let L := Lto tl (min 3 tl.length); let kd := kdTo hd 6
 if s = [] ∨ kindText kd (L.getD 0 0) (L.getD 1 0) (L.getD 2 0) ≠ s then ((0, 0, 0, 0), false) else ((kd, L.getD 0 0, L.getD 1 0, L.getD 2 0), true)
theorem name_geti {k : Nat} (h : k < 6) : geti deedNames (k : Int) = some (nameAt k) := by
 have hl : k < deedNames.length := h
 rw [geti_lt' hl]
 unfold nameAt
 rw [List.getD_eq_getElem?_getD, List.getElem?_eq_getElem hl]; rfl
theorem specRead_eq (s : List UInt8) (h : s.length ≤ 1048576) : spec_ReadDeedS s = some (readS s) := by
 unfold spec_ReadDeedS readS
 have hc := cut_eq s 32 h
 rw [show (((32 : UInt8).toNat : Nat) : Int) = 32 from rfl] at hc
 rw [hc, Option.bind_some]
 have hpl := pieces_length 32 s
 have hne := pieces_ne 32 s
 generalize pieces 32 s = W at hpl hne ⊢
 cases W with
 | nil => exact absurd rfl hne
 | cons hd tl =>
  rw [loopDet (s := ((0 : Int), (-1 : Int))) (fun k => ((k : Int), kdTo hd k)) 6 (kdTo hd 6) rfl]
  ·rw [Option.bind_some]
   dsimp only [List.head!, List.tail_cons]
   rw [loopDet (s := ((1 : Int), [0, 0, 0])) (fun j => (((j + 1 : Nat) : Int), Lto tl j)) (min 3 tl.length) (Lto tl (min 3 tl.length)) rfl]
   ·rw [Option.bind_some]
    have hL := Lto_len tl (min 3 tl.length)
    generalize Lto tl (min 3 tl.length) = L at hL ⊢
    have g0 : geti L 0 = some (L.getD 0 0) := geti_getD (k := 0) (by omega)
    have g1 : geti L 1 = some (L.getD 1 0) := geti_getD (k := 1) (by omega)
    have g2 : geti L 2 = some (L.getD 2 0) := geti_getD (k := 2) (by omega)
    rw [g0, Option.bind_some, g1, Option.bind_some, g2, Option.bind_some, specDeed_eq, Option.bind_some]
    by_cases hs : s = []
    ·rw [if_pos (by simpa using hs), Option.bind_some, if_pos rfl, if_pos (.inl hs)]
    ·rw [if_neg (by simpa using hs), Option.bind_some]
     by_cases ht : kindText (kdTo hd 6) (L.getD 0 0) (L.getD 1 0) (L.getD 2 0) = s
     ·rw [if_neg (by rw [ht]; simp), if_neg (by rintro (h | h); exact hs h; exact h ht)]
     ·rw [if_pos (by simpa using ht), if_pos (.inr ht)]
   ·intro j hj
    (try dsimp only)
    have hl : (hd :: tl).length = tl.length + 1 := rfl
    have hjl : j < tl.length := by omega
    rw [if_pos (by simp; omega), show geti (hd :: tl) ((j + 1 : Nat) : Int) = some tl[j] by rw [geti_nat]; simp [hjl], Option.bind_some, read_eq, Option.bind_some]
    rw [wr (x := ((j + 1 : Nat) : Int) - 1) ⟨by omega, by omega⟩, show ((j + 1 : Nat) : Int) - 1 = (j : Int) by omega, geti_getD (by rw [Lto_len]; omega), Option.bind_some, wr_succ (n := 1000000) (k := j + 1) (by omega) (by omega)]
    have := Lto_set (tl := tl) (j := j) (by omega)
    rw [rdAt_lt hjl] at this
    rw [← this]
    rfl
   ·(try dsimp only)
    rw [if_neg]
    simp
    omega
  ·intro k hk
   (try dsimp only)
   rw [if_pos (by simp; omega), show geti (hd :: tl) 0 = some hd from rfl, Option.bind_some, specName_eq hk, name_geti hk, Option.bind_some, wr_succ (n := 6) (by omega) hk]
   rw [show kdTo hd (k + 1) = if hd = nameAt k then (k : Int) else kdTo hd k from rfl]
   by_cases he : hd = nameAt k
   ·rw [if_pos (by simpa using he), if_pos he]
   ·rw [if_neg (by simpa using he), if_neg he]
  ·rfl
def numAt (k : Nat) : Nat := (deedNumbers.getD k 0).toNat
theorem num_geti {k : Nat} (h : k < 6) : geti deedNumbers (k : Int) = some ((numAt k : Nat) : Int) ∧ numAt k ≤ 3 := by
 have hc : k = 0 ∨ k = 1 ∨ k = 2 ∨ k = 3 ∨ k = 4 ∨ k = 5 := by omega
 rcases hc with rfl | rfl | rfl | rfl | rfl | rfl <;> exact ⟨rfl, by decide⟩
def okWords (hd : List UInt8) (tl : List (List UInt8)) (k : Nat) : Prop := hd = nameAt k ∧ tl.length = numAt k
instance (hd : List UInt8) (tl : List (List UInt8)) (k : Nat) : Decidable (okWords hd tl k) := inferInstanceAs (Decidable (_ ∧ _))
theorem isNum35 {w : List UInt8} (h : IsNum 3 w) : IsNum 5 w := ⟨⟨h.1.1, by have := h.1.2; omega⟩, h.2⟩
theorem innerLoop (tl : List (List UInt8)) (h3 : tl.length ≤ 3) {step : Int × Int × Int × Int × Int × List Int → Option ((Int × Int × Int × Int × Int × List Int) ⊕ ((Int × Int × Int × Int × List Int) ⊕ (Bool × Int × Int × Int × Int × List Int)))}
  (hs : ∀ j (hj : j < tl.length) (L : List Int), L.length = 3 → step ((j : Int), 0, 0, 0, 0, L) = some (if IsNum 3 tl[j] then .inl (((j + 1 : Nat) : Int), 0, 0, 0, 0, L.set j ((val tl[j] : Nat) : Int)) else .inr (.inr (false, 0, 0, 0, 0, L))))
  (he : ∀ L, step ((tl.length : Int), 0, 0, 0, 0, L) = some (.inr (.inl (0, 0, 0, 0, L)))) :
  Ret (loop (σ := Int × Int × Int × Int × Int × List Int) (ρ := (Int × Int × Int × Int × List Int) ⊕ (Bool × Int × Int × Int × Int × List Int)) step (0, 0, 0, 0, 0, [0, 0, 0])) (fun r =>
   (r = .inl (0, 0, 0, 0, Lto tl tl.length) ∧ ∀ w ∈ tl, IsNum 3 w) ∨ ((∃ L, r = .inr (false, 0, 0, 0, 0, L)) ∧ ¬ ∀ w ∈ tl, IsNum 3 w)) := by
 refine Ret.loop (fun s => ∃ j : Nat, s = ((j : Int), 0, 0, 0, 0, Lto tl j) ∧ j ≤ tl.length ∧ ∀ i (hi : i < tl.length), i < j → IsNum 3 tl[i]) (fun s => tl.length - s.1.toNat) ⟨0, rfl, by omega, fun i hi h => by omega⟩ ?_
 rintro s ⟨j, rfl, hj, hp⟩
 by_cases hjl : j < tl.length
 ·rw [hs j hjl _ (Lto_len _ _)]
  by_cases hn : IsNum 3 tl[j]
  ·rw [if_pos hn]
   have := Lto_set (tl := tl) (j := j) (by omega)
   rw [rdAt_lt hjl, rd, if_pos (isNum35 hn)] at this
   rw [this]
   refine Ret.pure ⟨⟨j + 1, rfl, by omega, fun i hi h => ?_⟩, by dsimp only; omega⟩
   rcases Nat.lt_or_ge i j with h1 | h1
   ·exact hp i hi h1
   ·have : i = j := by omega
    subst this; exact hn
  ·rw [if_neg hn]
   exact Ret.pure (.inr ⟨⟨_, rfl⟩, fun h => hn (h _ (List.getElem_mem hjl))⟩)
 ·have : j = tl.length := by omega
  subst this
  rw [he]
  refine Ret.pure (.inl ⟨rfl, fun w hw => ?_⟩)
  obtain ⟨i, hi, rfl⟩ := List.mem_iff_getElem.1 hw
  exact hp i hi hi
def hdOf (s : List UInt8) : List UInt8 := (pieces 32 s).head!
def tlOf (s : List UInt8) : List (List UInt8) := (pieces 32 s).tail
def Fits (s : List UInt8) (k : Nat) : Prop := okWords (hdOf s) (tlOf s) k ∧ ∀ w ∈ tlOf s, IsNum 3 w
theorem implRead (s : List UInt8) (h : s.length ≤ 1048576) : Ret (impl_ReadDeedS s) (fun r => (∃ k, k < 6 ∧ Fits s k ∧ r = (((k : Int), (Lto (tlOf s) (tlOf s).length).getD 0 0, (Lto (tlOf s) (tlOf s).length).getD 1 0, (Lto (tlOf s) (tlOf s).length).getD 2 0), true)) ∨ (r = ((0, 0, 0, 0), false) ∧ ∀ k, k < 6 → ¬ Fits s k)) := by
 unfold impl_ReadDeedS Fits hdOf tlOf
 rw [split_eq s 32 (by omega), Option.bind_some]
 have hpl := pieces_length 32 s
 have hne := pieces_ne 32 s
 generalize pieces 32 s = W at hpl hne ⊢
 cases W with
 | nil => exact absurd rfl hne
 | cons hd tl =>
  dsimp only [List.head!, List.tail_cons]
  have hWl : (hd :: tl).length = tl.length + 1 := rfl
  refine Ret.loopb (fun t => ∃ k : Nat, t = ((k : Int), 0, 0, 0, 0) ∧ k ≤ 6 ∧ ∀ j, j < k → ¬ okWords hd tl j) (fun t => 6 - t.1.toNat)
   (fun r => (r = .inl (0, 0, 0, 0) ∧ ∀ j, j < 6 → ¬ okWords hd tl j) ∨ ∃ k, k < 6 ∧ okWords hd tl k ∧ (((∀ w ∈ tl, IsNum 3 w) ∧ r = .inr (true, (k : Int), (Lto tl tl.length).getD 0 0, (Lto tl tl.length).getD 1 0, (Lto tl tl.length).getD 2 0)) ∨ ((¬ ∀ w ∈ tl, IsNum 3 w) ∧ r = .inr (false, 0, 0, 0, 0))))
   ⟨0, rfl, by omega, fun j hj => by omega⟩ ?_ ?_
  ·rintro t ⟨k, rfl, hk6, hno⟩
   (try dsimp only)
   by_cases hk : k < 6
   ·obtain ⟨hng, hn3⟩ := num_geti hk
    rw [if_pos (by simp; omega), name_geti hk, Option.bind_some, show geti (hd :: tl) 0 = some hd from rfl, Option.bind_some, hng, Option.bind_some, wr_succ (n := 6) (by omega) hk, wr (x := 1 + ((numAt k : Nat) : Int)) ⟨by omega, by omega⟩]
    have next : ¬ okWords hd tl k → ∀ j, j < k + 1 → ¬ okWords hd tl j := by
     intro hw j hj
     rcases Nat.lt_or_ge j k with h1 | h1
     ·exact hno j h1
     ·have : j = k := by omega
      subst this; exact hw
    by_cases hh : hd = nameAt k
    ·rw [if_neg (by simpa using hh)]
     by_cases hl : tl.length = numAt k
     ·have hw : okWords hd tl k := ⟨hh, hl⟩
      have hb : (((hd :: tl).length : Int) != 1 + ((numAt k : Nat) : Int)) = false := by
       rw [hWl]; simp; omega
      rw [hb, Option.bind_some, if_neg (by simp)]
      have hs : subO (hd :: tl) 1 ((hd :: tl).length : Int) = some tl := by
       unfold subO
       rw [if_pos (by simp; omega)]
       simp
      rw [hs, Option.bind_some]
      refine Ret.bind (innerLoop tl (by omega) ?_ ?_) (fun r hr => ?_)
      ·intro j hj L hL
       (try dsimp only)
       rw [if_pos (lt_dec hj), geti_lt' hj, Option.bind_some, readNumber_eq, Option.bind_some, wr_succ (n := tl.length) (by omega) hj]
       by_cases hn : IsNum 3 tl[j]
       ·rw [if_pos hn, if_pos hn, if_neg (by simp), geti_getD (by omega), Option.bind_some]
        rfl
       ·rw [if_neg hn, if_neg hn]; rfl
      ·intro L
       (try dsimp only)
       rw [if_neg (by simp)]
      ·rcases hr with ⟨rfl, hall⟩ | ⟨⟨L, rfl⟩, hall⟩
       ·(try dsimp only)
        have hL := Lto_len tl tl.length
        generalize Lto tl tl.length = L at hL ⊢
        have g0 : geti L 0 = some (L.getD 0 0) := geti_getD (k := 0) (by omega)
        have g1 : geti L 1 = some (L.getD 1 0) := geti_getD (k := 1) (by omega)
        have g2 : geti L 2 = some (L.getD 2 0) := geti_getD (k := 2) (by omega)
        rw [g0, Option.bind_some, g1, Option.bind_some, g2, Option.bind_some]
        exact Ret.pure (.inr ⟨k, hk, hw, .inl ⟨hall, rfl⟩⟩)
       ·exact Ret.pure (.inr ⟨k, hk, hw, .inr ⟨hall, rfl⟩⟩)
     ·have hb : (((hd :: tl).length : Int) != 1 + ((numAt k : Nat) : Int)) = true := by
       rw [hWl]; simp; omega
      rw [hb, Option.bind_some, if_pos rfl]
      exact Ret.pure ⟨⟨k + 1, rfl, by omega, next fun hw => hl hw.2⟩, by dsimp only; omega⟩
    ·rw [if_pos (by simpa using hh), Option.bind_some, if_pos rfl]
     exact Ret.pure ⟨⟨k + 1, rfl, by omega, next fun hw => hh hw.1⟩, by dsimp only; omega⟩
   ·have : k = 6 := by omega
    subst this
    rw [if_neg (by simp)]
    exact Ret.pure (.inl ⟨rfl, hno⟩)
  ·rintro r hr
   rcases hr with ⟨rfl, hno⟩ | ⟨k, hk, hw, ⟨hall, rfl⟩ | ⟨hall, rfl⟩⟩
   ·exact Ret.pure (.inr ⟨rfl, fun k hk hf => hno k hk hf.1⟩)
   ·exact Ret.pure (.inl ⟨k, hk, ⟨hw, hall⟩, rfl⟩)
   ·exact Ret.pure (.inr ⟨rfl, fun k _ hf => hall hf.2⟩)
end Go.Proofs.YtkhnponakhabdaaGreatDoor
set_option linter.unusedVariables false
namespace Go.Proofs.YtkhnponakhabdaaGreatDoor
open Go Go.RowKit
def ws (L : List Int) (j : Nat) : List (List UInt8) := (List.range j).map fun i => Lib.decDigits (L.getD i 0).toNat
theorem ws_succ (L : List Int) (j : Nat) : ws L (j + 1) = ws L j ++ [Lib.decDigits (L.getD j 0).toNat] := by unfold ws; rw [List.range_succ, List.map_append]; rfl
theorem joinW_snoc (c : UInt8) (w x : List UInt8) (l : List (List UInt8)) : joinW c (w :: (l ++ [x])) = joinW c (w :: l) ++ c :: x := by
 show w ++ ((l ++ [x]).map (c :: ·)).flatten = (w ++ (l.map (c :: ·)).flatten) ++ c :: x
 rw [List.map_append, List.flatten_append]
 simp
theorem textTo_join (nm : List UInt8) (L : List Int) : ∀ j, textTo nm L j = joinW 32 (nm :: ws L j)
 | 0 => by simp [textTo, ws, joinW]
 | j + 1 => by
  rw [ws_succ, joinW_snoc, ← textTo_join nm L j]
  rfl
theorem names_clean : ∀ k, k < 6 → nameAt k ≠ [] ∧ (32 : UInt8) ∉ nameAt k := by decide
theorem kindText_at {k : Nat} (h : k < 6) (a b c : Int) : kindText (k : Int) a b c = deedText (nameAt k) (numAt k) [a, b, c] := by
 unfold kindText
 rw [if_pos (by omega)]
 rfl
theorem Lto_self (tl : List (List UInt8)) (j : Nat) : [(Lto tl j).getD 0 0, (Lto tl j).getD 1 0, (Lto tl j).getD 2 0] = Lto tl j := rfl
theorem numAt_le {k : Nat} (h : k < 6) : numAt k ≤ 3 := (num_geti h).2
theorem val_small {w : List UInt8} (h : IsNum 3 w) : val w < 1000 := by
 have h1 := val_lt w.length w rfl h.2.1
 have h2 : 10 ^ w.length ≤ 10 ^ 3 := Nat.pow_le_pow_right (by omega) h.1.2
 omega
theorem read_true {s : List UInt8} {k : Nat} (hk : k < 6) (hf : Fits s k) : readS s = (((k : Int), (Lto (tlOf s) (tlOf s).length).getD 0 0, (Lto (tlOf s) (tlOf s).length).getD 1 0, (Lto (tlOf s) (tlOf s).length).getD 2 0), true) := by
 obtain ⟨⟨hhd, hlen⟩, hall⟩ := hf
 have hm3 := numAt_le hk
 have hkd := kdTo_hit (hd := hdOf s) (n := 6) hk (by omega) hhd
 obtain ⟨hnm, hcl⟩ := names_clean k hk
 have hmin : min 3 (tlOf s).length = (tlOf s).length := by omega
 have hsn : s ≠ [] := by
  rintro rfl
  have : hdOf [] = [] := rfl
  rw [this] at hhd
  exact hnm hhd.symm
 have hp : pieces 32 s = hdOf s :: tlOf s := by
  unfold hdOf tlOf
  have hne := pieces_ne 32 s
  generalize pieces 32 s = W at hne ⊢
  cases W with
  | nil => exact absurd rfl hne
  | cons x xs => rfl
 have hget : ∀ i (hi : i < (tlOf s).length), (Lto (tlOf s) (tlOf s).length).getD i 0 = ((val (tlOf s)[i] : Nat) : Int) := by
  intro i hi
  rw [Lto_get (by omega), if_pos hi, rdAt_lt hi, rd, if_pos (isNum35 (hall _ (List.getElem_mem hi)))]
 have hok : DeedOk (numAt k) (Lto (tlOf s) (tlOf s).length) := by
  intro i hi
  rcases Nat.lt_or_ge i (tlOf s).length with h1 | h1
  ·rw [hget i h1]
   have := val_small (hall _ (List.getElem_mem h1))
   exact ⟨⟨by omega, by omega⟩, fun h => by omega⟩
  ·rw [Lto_get hi, if_neg (by omega)]
   exact ⟨⟨by omega, by omega⟩, fun _ => rfl⟩
 have hws : ws (Lto (tlOf s) (tlOf s).length) (numAt k) = tlOf s := by
  rw [← hlen]
  unfold ws
  apply List.ext_getElem
  ·simp
  ·intro i h1 h2
   rw [List.getElem_map, List.getElem_range, hget i h2, Int.toNat_natCast]
   exact isNum_dec (hall _ (List.getElem_mem h2))
 have htext : kindText (k : Int) ((Lto (tlOf s) (tlOf s).length).getD 0 0) ((Lto (tlOf s) (tlOf s).length).getD 1 0) ((Lto (tlOf s) (tlOf s).length).getD 2 0) = s := by
  rw [kindText_at hk, Lto_self]
  unfold deedText
  rw [if_pos hok, textTo_join, hws, ← hhd, ← hp, join_pieces]
 show (if s = [] ∨ kindText (kdTo (hdOf s) 6) ((Lto (tlOf s) (min 3 (tlOf s).length)).getD 0 0) ((Lto (tlOf s) (min 3 (tlOf s).length)).getD 1 0) ((Lto (tlOf s) (min 3 (tlOf s).length)).getD 2 0) ≠ s then _ else ((kdTo (hdOf s) 6, (Lto (tlOf s) (min 3 (tlOf s).length)).getD 0 0, (Lto (tlOf s) (min 3 (tlOf s).length)).getD 1 0, (Lto (tlOf s) (min 3 (tlOf s).length)).getD 2 0), true)) = _
 rw [hmin, hkd, if_neg]
 rintro (h | h)
 ·exact hsn h
 ·exact h htext
theorem read_false {s : List UInt8} (hno : ∀ k, k < 6 → ¬ Fits s k) : readS s = ((0, 0, 0, 0), false) := by
 show (if s = [] ∨ kindText (kdTo (hdOf s) 6) ((Lto (tlOf s) (min 3 (tlOf s).length)).getD 0 0) ((Lto (tlOf s) (min 3 (tlOf s).length)).getD 1 0) ((Lto (tlOf s) (min 3 (tlOf s).length)).getD 2 0) ≠ s then _ else _) = _
 by_cases hs : s = []
 ·rw [if_pos (.inl hs)]
 ·by_cases ht : kindText (kdTo (hdOf s) 6) ((Lto (tlOf s) (min 3 (tlOf s).length)).getD 0 0) ((Lto (tlOf s) (min 3 (tlOf s).length)).getD 1 0) ((Lto (tlOf s) (min 3 (tlOf s).length)).getD 2 0) = s
  ·exfalso
   rcases kdTo_back (hd := hdOf s) (n := 6) with h | ⟨k, hk, h, hhd⟩
   ·rw [h] at ht
    unfold kindText at ht
    rw [if_neg (by omega)] at ht
    exact hs ht.symm
   ·rw [h, kindText_at hk, Lto_self] at ht
    generalize hL : Lto (tlOf s) (min 3 (tlOf s).length) = L at ht
    unfold deedText at ht
    by_cases hok : DeedOk (numAt k) L
    ·rw [if_pos hok, textTo_join] at ht
     obtain ⟨hnm, hcl⟩ := names_clean k hk
     have hm3 := numAt_le hk
     have hsm : ∀ i, i < numAt k → (L.getD i 0).toNat < 1000 := fun i hi => by
      have := (hok i (by omega)).1
      unfold okN at this; omega
     have hpc : pieces 32 s = nameAt k :: ws L (numAt k) := by
      rw [← ht]
      refine pieces_join (by simp) (fun w hw => ?_)
      rcases List.mem_cons.1 hw with rfl | hw
      ·exact hcl
      ·unfold ws at hw
       obtain ⟨i, _, rfl⟩ := List.mem_map.1 hw
       exact dec_no (by decide)
     have htl : tlOf s = ws L (numAt k) := by unfold tlOf; rw [hpc]; rfl
     refine hno k hk ⟨⟨hhd, ?_⟩, fun w hw => ?_⟩
     ·rw [htl]; simp [ws]
     ·rw [htl] at hw
      unfold ws at hw
      obtain ⟨i, hi, rfl⟩ := List.mem_map.1 hw
      exact dec_isNum (hsm i (List.mem_range.1 hi)) (by omega)
    ·rw [if_neg hok] at ht
     exact hs ht.symm
  ·rw [if_pos (.inr ht)]
theorem implRead_eq (s : List UInt8) (h : s.length ≤ 1048576) : impl_ReadDeedS s = some (readS s) := by
 obtain ⟨r, hr, h1 | h1⟩ := implRead s h
 ·obtain ⟨k, hk, hf, rfl⟩ := h1
  rw [hr, read_true hk hf]
 ·rw [hr, h1.1, read_false h1.2]
end Go.Proofs.YtkhnponakhabdaaGreatDoor
