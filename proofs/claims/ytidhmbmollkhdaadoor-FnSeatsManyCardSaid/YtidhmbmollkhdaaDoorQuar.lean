/- Chapter 6: quarrels. Own work; no program in sight. -/
import Derived.Test.YtidhmbmollkhdaaDoorPop
set_option linter.unusedVariables false
namespace Go.Proofs.YtidhmbmollkhdaaDoor
open Go Go.RowKit
/-- a loop that counts to n and leaves at the first number that fails -/
theorem loopAll (n : Nat) (p : Nat → Bool) (step : Int → Option (Int ⊕ (Unit ⊕ Bool)))
    (h : ∀ k : Nat, k < n → step (k : Int) = some (if p k then .inl ((k + 1 : Nat) : Int) else .inr (.inr false))) (he : step (n : Int) = some (.inr (.inl ()))) :
    loop (σ := Int) (ρ := Unit ⊕ Bool) step 0 = some (if (List.range n).all p then .inl () else .inr false) := by
  apply Ret.eq
  refine Ret.loop (fun s => ∃ k : Nat, s = (k : Int) ∧ k ≤ n ∧ (List.range k).all p = true) (fun s => n - s.toNat) ⟨0, rfl, by omega, by simp⟩ ?_
  rintro s ⟨k, rfl, hle, ha⟩
  by_cases hk : k < n
  · rw [h k hk]
    cases hp : p k
    · refine Ret.pure ?_
      have : ¬ ((List.range n).all p = true) := by
        intro hall
        have := List.all_eq_true.1 hall k (List.mem_range.2 hk)
        rw [hp] at this; cases this
      rw [if_neg this]; rfl
    · refine Ret.pure ⟨⟨k + 1, rfl, by omega, ?_⟩, by simp; omega⟩
      rw [List.range_succ, List.all_append, ha]; simp [hp]
  · have : k = n := by omega
    subst this
    rw [he]
    refine Ret.pure ?_
    rw [if_pos ha]
theorem fin2 (b : Bool) : (match (if b = true then .inl () else .inr false : Unit ⊕ Bool) with | .inl _ => some true | .inr p => some p) = some b := by cases b <;> rfl
theorem fin3 (b : Bool) (z : Int) : (match (if b = true then .inl () else .inr false : Unit ⊕ Bool) with | .inl _ => some (.inl z : Int ⊕ (Unit ⊕ Bool)) | .inr p => some (.inr (.inr p))) = some (if b = true then .inl z else .inr (.inr false)) := by cases b <;> rfl
/-- the members of a set, to a bound -/
def membersTo (x k : Nat) : List Nat := (List.range k).filter (fun i => x.testBit i)
def members (x : Nat) : List Nat := membersTo x 64
theorem membersTo_succ (x k : Nat) : membersTo x (k + 1) = membersTo x k ++ (if x.testBit k then [k] else []) := by
  unfold membersTo
  rw [List.range_succ, List.filter_append]
  cases h : x.testBit k <;> simp [h]
theorem membersTo_zero {x i : Nat} (h : x >>> i = 0) : ∀ d, membersTo x (i + d) = membersTo x i
  | 0 => rfl
  | d + 1 => by
    have : x.testBit (i + d) = false := by rw [← Nat.testBit_shiftRight, h]; simp
    rw [← Nat.add_assoc, membersTo_succ, membersTo_zero h d, this]; simp
theorem mem_members {x i : Nat} (hx : x < 18446744073709551616) : i ∈ members x ↔ x.testBit i = true := by
  unfold members membersTo
  rw [List.mem_filter, List.mem_range]
  constructor
  · exact fun h => h.2
  · intro h
    refine ⟨?_, h⟩
    rcases Nat.lt_or_ge i 64 with hi | hi
    · exact hi
    · have : x < 2 ^ i := Nat.lt_of_lt_of_le hx (Nat.pow_le_pow_right (n := 2) (by omega) hi)
      rw [Nat.testBit_lt_two_pow this] at h; cases h
theorem membersTo_length (x : Nat) : ∀ k, (membersTo x k).length ≤ k
  | 0 => by simp [membersTo]
  | k + 1 => by rw [membersTo_succ, List.length_append]; have := membersTo_length x k; split <;> simp <;> omega
theorem membersOf_eq (x : Nat) (hx : x < 2305843009213693952) : impl_membersOfS (x : Int) = some ((members x).map (fun i : Nat => (i : Int))) := by
  unfold impl_membersOfS
  apply Ret.eq
  refine Ret.loopb (fun s => ∃ k : Nat, s = ((membersTo x k).map (fun i : Nat => (i : Int)), (k : Int)) ∧ k ≤ 61) (fun s => 61 - s.2.toNat) (fun r => r = (members x).map (fun i : Nat => (i : Int))) ⟨0, rfl, by omega⟩ ?_ (fun r hr => Ret.pure hr)
  rintro s ⟨k, rfl, hk⟩
  simp only []
  rw [ishrO_nat (by omega), Option.bind_some]
  by_cases h0 : x >>> k = 0
  · rw [if_neg (by simp [h0])]
    refine Ret.pure ?_
    have := membersTo_zero h0 (64 - k)
    rw [show k + (64 - k) = 64 from by omega] at this
    unfold members; rw [this]
  · have hk' : k < 61 := by
      rcases Nat.lt_or_ge k 61 with h | h
      · exact h
      · exact absurd (by rw [Nat.shiftRight_eq_div_pow]; exact Nat.div_eq_of_lt (Nat.lt_of_lt_of_le (show x < 2 ^ 61 by omega) (Nat.pow_le_pow_right (n := 2) (by omega) h))) h0
    rw [if_pos (by generalize x >>> k = z at h0; simp; omega), ishlO_nat (by omega), Option.bind_some, iand_nat (by omega) (by have := pow61 (k := k) (by omega); omega), and_pow_ne, wr_succ (n := 61) (by omega) hk']
    have hms : 61 - (((k + 1 : Nat) : Int)).toNat < 61 - ((k : Int)).toNat := by simp; omega
    have hs := membersTo_succ x k
    have hl := membersTo_length x k
    cases hb : x.testBit k
    · rw [if_neg (by simp)]
      rw [hb] at hs
      refine Ret.pure ⟨⟨k + 1, by rw [hs]; simp, by omega⟩, hms⟩
    · rw [if_pos rfl]
      rw [hb] at hs
      have ha : appO ((membersTo x k).map (fun i : Nat => (i : Int))) [(k : Int)] = some ((membersTo x (k + 1)).map (fun i : Nat => (i : Int))) := by
        unfold appO room; rw [if_pos (by simp; omega), hs]; simp
      rw [ha, Option.bind_some]
      exact Ret.pure ⟨⟨k + 1, rfl, by omega⟩, hms⟩
/-- the sets of quarrels: entry i of the list, as a set -/
def nth (qs : List Nat) (i : Nat) : Nat := qs.getD i 0
theorem nth_lt {qs : List Nat} {k : Nat} (h : k < qs.length) : nth qs k = qs[k] := by unfold nth; rw [List.getD_eq_getElem?_getD, List.getElem?_eq_getElem h]; rfl
theorem geti_nth {qs : List Nat} {k : Nat} (h : k < qs.length) : geti (qs.map (fun x : Nat => (x : Int))) (k : Int) = some ((nth qs k : Nat) : Int) := by rw [geti_map h, nth_lt h]
theorem nth_mem {qs : List Nat} {k : Nat} (h : k < qs.length) : nth qs k ∈ qs := by rw [nth_lt h]; exact List.getElem_mem h
def quarOk (qs : List Nat) : Bool := (List.range qs.length).all fun i => !(nth qs i).testBit i && (List.range i).all fun j => (nth qs i).testBit j == (nth qs j).testBit i
def quarImpl (qs : List Nat) : Bool := (List.range qs.length).all fun i => !(nth qs i).testBit i && (members (nth qs i)).all fun j => (nth qs j).testBit i
theorem range_all_nth (l : List Nat) (f : Nat → Bool) : (List.range l.length).all (fun k => f (nth l k)) = l.all f := by
  rw [Bool.eq_iff_iff, List.all_eq_true, List.all_eq_true]
  constructor
  · intro h x hx
    obtain ⟨k, hk, rfl⟩ := List.getElem_of_mem hx
    have := h k (List.mem_range.2 hk)
    rwa [nth_lt hk] at this
  · intro h k hk
    exact h _ (nth_mem (List.mem_range.1 hk))
theorem bit_lt {x n i : Nat} (h : x < 2 ^ n) (hb : x.testBit i = true) : i < n := by
  rcases Nat.lt_or_ge i n with hi | hi
  · exact hi
  · rw [Nat.testBit_lt_two_pow (Nat.lt_of_lt_of_le h (Nat.pow_le_pow_right (n := 2) (by omega) hi))] at hb; cases hb
theorem quarImpl_eq {qs : List Nat} (hn : qs.length ≤ 6) (h : ∀ x ∈ qs, x < 2 ^ qs.length) : quarImpl qs = quarOk qs := by
  unfold quarImpl quarOk
  rw [Bool.eq_iff_iff, List.all_eq_true, List.all_eq_true]
  constructor
  · intro hi i hr
    have hin := List.mem_range.1 hr
    have h1 := hi i hr
    rw [Bool.and_eq_true, List.all_eq_true] at h1 ⊢
    refine ⟨h1.1, fun j hj => ?_⟩
    have hj' := List.mem_range.1 hj
    have h2 := hi j (List.mem_range.2 (by omega))
    rw [Bool.and_eq_true, List.all_eq_true] at h2
    have xi := p6 hn (h _ (nth_mem hin))
    have xj := p6 hn (h _ (nth_mem (show j < qs.length by omega)))
    rw [beq_iff_eq, Bool.eq_iff_iff]
    exact ⟨fun hb => h1.2 j ((mem_members (by omega)).2 hb), fun hb => h2.2 i ((mem_members (by omega)).2 hb)⟩
  · intro hi i hr
    have hin := List.mem_range.1 hr
    have h1 := hi i hr
    rw [Bool.and_eq_true, List.all_eq_true] at h1 ⊢
    refine ⟨h1.1, fun j hj => ?_⟩
    have xi := h _ (nth_mem hin)
    have hb := (mem_members (by have := p6 hn xi; omega)).1 hj
    have hjn := bit_lt xi hb
    rcases Nat.lt_trichotomy j i with hlt | heq | hgt
    · have := h1.2 j (List.mem_range.2 hlt)
      rw [beq_iff_eq] at this; rw [← this]; exact hb
    · subst heq; simp [hb] at h1
    · have h2 := hi j (List.mem_range.2 hjn)
      rw [Bool.and_eq_true, List.all_eq_true] at h2
      have := h2.2 i (List.mem_range.2 hgt)
      rw [beq_iff_eq] at this; rw [this]; exact hb
def QuarIn (g : Int) (q : List Int) : Prop := (0 ≤ g ∧ g ≤ 6) ∧ (q.length : Int) = g ∧ ∀ x ∈ q, 0 ≤ x ∧ x ≤ 2 ^ g.toNat - 1
instance (g : Int) (q : List Int) : Decidable (QuarIn g q) := by unfold QuarIn; infer_instance
def quarValid (g : Int) (q : List Int) : Bool := decide (QuarIn g q) && quarOk (q.map Int.toNat)
theorem quar_nat {g : Int} {q : List Int} (h : QuarIn g q) : ∃ qs : List Nat, q = qs.map (fun x : Nat => (x : Int)) ∧ g = (qs.length : Int) ∧ qs.length ≤ 6 ∧ ∀ x ∈ qs, x < 2 ^ qs.length := by
  obtain ⟨⟨h0, h1⟩, h2, h3⟩ := h
  have hm : MenuOk g q := ⟨h0, h1, by omega, h3⟩
  obtain ⟨n, ms, hg, hn, rfl, hl, hx⟩ := menu_nat hm
  have : n = ms.length := by simp at h2; omega
  subst this
  exact ⟨ms, rfl, hg, hn, hx⟩
theorem implQuarrelsValid_eq (g : Int) (q : List Int) (h : q.length ≤ 4611686018427387904) : impl_QuarrelsValidS g q = some (quarValid g q) := by
  unfold impl_QuarrelsValidS quarValid
  by_cases hg : 0 ≤ g ∧ g ≤ 6
  · obtain ⟨h0, h1⟩ := hg
    rw [if_neg (by simp; omega), everybody_eq h0 (by omega), Option.bind_some, amountsOk_eq q _ _ h, Option.bind_some, Option.bind_some]
    by_cases hin : QuarIn g q
    · have hin' := hin
      obtain ⟨_, h2, h3⟩ := hin'
      rw [decide_eq_true hin, if_neg (by simp only [Bool.not_eq_true', decide_eq_false_iff_not]; exact fun hh => hh ⟨h2, h3⟩)]
      obtain ⟨qs, rfl, rfl, hn, hx⟩ := quar_nat hin
      rw [map_toNat, Bool.true_and, ← quarImpl_eq hn hx]
      rw [loopAll qs.length (fun i => !(nth qs i).testBit i && (members (nth qs i)).all fun j => (nth qs j).testBit i)]
      · rw [Option.bind_some]
        exact fin2 _
      · intro i hi
        simp only [List.length_map]
        have xi := hx _ (nth_mem hi)
        have xi6 := p6 hn xi
        have hp := pow61 (k := i) (by omega)
        rw [if_pos (by simp; omega), geti_nth hi, Option.bind_some, ishlO_nat (by omega), Option.bind_some, iand_nat (by omega) (by omega), and_pow_ne, Option.bind_some, membersOf_eq _ (by omega), Option.bind_some, wr_succ (n := qs.length) (by omega) hi]
        cases hb : (nth qs i).testBit i
        · rw [if_neg (by simp)]
          rw [loopAll (members (nth qs i)).length (fun k => (nth qs (nth (members (nth qs i)) k)).testBit i)]
          · rw [Option.bind_some, range_all_nth _ (fun j => (nth qs j).testBit i)]
            exact fin3 _ _
          · intro k hk
            have hmem := nth_mem hk
            have hb2 := (mem_members (by omega)).1 hmem
            have hj := bit_lt xi hb2
            have xj := p6 hn (hx _ (nth_mem hj))
            have hml : (members (nth qs i)).length ≤ 64 := membersTo_length _ 64
            simp only [List.length_map]
            rw [if_pos (by simp; omega), geti_nth hk, Option.bind_some, geti_nth hj, Option.bind_some, Option.bind_some, iand_nat (by omega) (by omega), and_pow_eq, wr_succ (n := (members (nth qs i)).length) (by omega) hk]
            cases (nth qs (nth (members (nth qs i)) k)).testBit i <;> rfl
          · simp
        · rw [if_pos rfl]; rfl
      · simp
    · rw [decide_eq_false hin, if_pos (by simp only [Bool.not_eq_true', decide_eq_false_iff_not]; rintro ⟨h2, h3⟩; exact hin ⟨⟨h0, h1⟩, h2, h3⟩)]
      rfl
  · rw [if_pos (by simp; omega)]
    have : ¬ QuarIn g q := fun hq => hg hq.1
    rw [decide_eq_false this]; rfl
theorem shr_bits_ne (a b j i : Nat) : (Int.tmod ((a >>> j : Nat) : Int) 2 != Int.tmod ((b >>> i : Nat) : Int) 2) = !(a.testBit j == b.testBit i) := by
  rw [tmod2, tmod2, ← shr_bit, ← shr_bit, tmod2, tmod2]
  have h1 : a >>> j % 2 = 0 ∨ a >>> j % 2 = 1 := by omega
  have h2 : b >>> i % 2 = 0 ∨ b >>> i % 2 = 1 := by omega
  rcases h1 with h1 | h1 <;> rcases h2 with h2 | h2 <;> rw [h1, h2] <;> rfl
def inSet (n : Nat) (x : Int) : Bool := decide (0 ≤ x ∧ x ≤ ((2 ^ n : Nat) : Int) - 1)
theorem nth_toNat {q : List Int} {k : Nat} (h : k < q.length) : nth (q.map Int.toNat) k = q[k].toNat := by rw [nth_lt (by simpa using h)]; simp
def quarSpec (q : List Int) : Bool := (List.range q.length).all fun i => inSet q.length (q.getD i 0) && (!(nth (q.map Int.toNat) i).testBit i && (List.range i).all fun j => inSet q.length (q.getD j 0) && ((nth (q.map Int.toNat) i).testBit j == (nth (q.map Int.toNat) j).testBit i))
theorem getD_lt {q : List Int} {k : Nat} (h : k < q.length) : q.getD k 0 = q[k] := by rw [List.getD_eq_getElem?_getD, List.getElem?_eq_getElem h]; rfl
theorem quarSpec_eq (q : List Int) : quarSpec q = (decide (∀ x ∈ q, 0 ≤ x ∧ x ≤ ((2 ^ q.length : Nat) : Int) - 1) && quarOk (q.map Int.toNat)) := by
  unfold quarSpec quarOk
  rw [Bool.eq_iff_iff, Bool.and_eq_true, decide_eq_true_eq, List.all_eq_true, List.all_eq_true, List.length_map]
  constructor
  · intro h
    refine ⟨fun x hx => ?_, fun i hi => ?_⟩
    · obtain ⟨k, hk, rfl⟩ := List.getElem_of_mem hx
      have := h k (List.mem_range.2 hk)
      rw [Bool.and_eq_true, getD_lt hk] at this
      exact of_decide_eq_true this.1
    · have := h i hi
      rw [Bool.and_eq_true, Bool.and_eq_true, List.all_eq_true] at this
      rw [Bool.and_eq_true, List.all_eq_true]
      refine ⟨this.2.1, fun j hj => ?_⟩
      have h2 := this.2.2 j hj
      rw [Bool.and_eq_true] at h2
      exact h2.2
  · rintro ⟨hr, h⟩ i hi
    have hin := List.mem_range.1 hi
    have := h i hi
    rw [Bool.and_eq_true, List.all_eq_true] at this
    rw [Bool.and_eq_true, Bool.and_eq_true, List.all_eq_true]
    refine ⟨by rw [getD_lt hin]; exact decide_eq_true (hr _ (List.getElem_mem hin)), this.1, fun j hj => ?_⟩
    have hjn : j < q.length := by have := List.mem_range.1 hj; omega
    rw [Bool.and_eq_true]
    exact ⟨by rw [getD_lt hjn]; exact decide_eq_true (hr _ (List.getElem_mem hjn)), this.2 j hj⟩
theorem specQuarrelsValid_eq (g : Int) (q : List Int) (h : q.length ≤ 4611686018427387904) : spec_QuarrelsValidS g q = some (quarValid g q) := by
  unfold spec_QuarrelsValidS quarValid
  rw [l1In_eq, Option.bind_some]
  by_cases hg : (0 ≤ g ∧ g ≤ 6) ∧ (q.length : Int) = g
  · obtain ⟨⟨h0, h1⟩, h2⟩ := hg
    subst h2
    rw [if_neg (by simp; omega)]
    have hl : q.length ≤ 6 := by omega
    have hp := pow61 (k := q.length) (by omega)
    have hsh : ishlO .i64 1 (q.length : Int) = some ((2 ^ q.length : Nat) : Int) := ishlO_nat (by omega)
    have hone : 1 ≤ 2 ^ q.length := Nat.one_le_two_pow
    have hw : IntKind.wrap .i64 (((2 ^ q.length : Nat) : Int) - 1) = ((2 ^ q.length : Nat) : Int) - 1 := wr ⟨by omega, by omega⟩
    have hqp : QuarIn (q.length : Int) q ↔ (∀ x ∈ q, 0 ≤ x ∧ x ≤ ((2 ^ q.length : Nat) : Int) - 1) := by
      unfold QuarIn
      rw [Int.toNat_natCast, two_pow_cast]
      exact ⟨fun hh => hh.2.2, fun hh => ⟨⟨h0, h1⟩, rfl, hh⟩⟩
    have hqi : decide (QuarIn (q.length : Int) q) = decide (∀ x ∈ q, 0 ≤ x ∧ x ≤ ((2 ^ q.length : Nat) : Int) - 1) := decide_eq_decide.2 hqp
    rw [hqi, ← quarSpec_eq]
    rw [loopAll q.length (fun i => inSet q.length (q.getD i 0) && (!(nth (q.map Int.toNat) i).testBit i && (List.range i).all fun j => inSet q.length (q.getD j 0) && ((nth (q.map Int.toNat) i).testBit j == (nth (q.map Int.toNat) j).testBit i)))]
    · rw [Option.bind_some]
      exact fin2 _
    · intro i hi
      simp only [hsh, l1In_eq, hw, Option.bind_some]
      rw [if_pos (by simp; omega), geti_lt' hi, Option.bind_some, Option.bind_some, wr_succ (n := q.length) (by omega) hi, getD_lt hi]
      cases hr : inSet q.length q[i]
      · have hr' : decide (0 ≤ q[i] ∧ q[i] ≤ ((2 ^ q.length : Nat) : Int) - 1) = false := hr
        rw [hr']; rfl
      · have hr' : decide (0 ≤ q[i] ∧ q[i] ≤ ((2 ^ q.length : Nat) : Int) - 1) = true := hr
        have hb := of_decide_eq_true hr'
        have hx := nth_toNat hi
        obtain ⟨x, hxe⟩ := Int.eq_ofNat_of_zero_le hb.1
        rw [hr', hx, hxe]
        have hxe' : (x : Int) = q[i] := hxe.symm
        have hxlt : x < 2305843009213693952 := by omega
        rw [if_neg (by simp), ishrO_nat (by omega), Option.bind_some, Option.bind_some, shr_bit, Int.toNat_natCast]
        cases hbb : x.testBit i
        · rw [if_neg (by simp)]
          rw [loopAll i (fun j => inSet q.length (q.getD j 0) && (x.testBit j == (nth (q.map Int.toNat) j).testBit i))]
          · rw [Option.bind_some]
            exact fin3 _ _
          · intro j hj
            have hjn : j < q.length := by omega
            rw [if_pos (by simp; omega), geti_lt' hjn, Option.bind_some, wr_succ (n := q.length) (by omega) hjn, getD_lt hjn, nth_toNat hjn]
            cases hr2 : inSet q.length q[j]
            · have hr2' : decide (0 ≤ q[j] ∧ q[j] ≤ ((2 ^ q.length : Nat) : Int) - 1) = false := hr2
              rw [hr2']; rfl
            · have hr2' : decide (0 ≤ q[j] ∧ q[j] ≤ ((2 ^ q.length : Nat) : Int) - 1) = true := hr2
              have hb2 := of_decide_eq_true hr2'
              obtain ⟨y, hye⟩ := Int.eq_ofNat_of_zero_le hb2.1
              rw [hr2', hye]
              have hylt : y < 2305843009213693952 := by omega
              rw [if_neg (by simp), Option.bind_some, ishrO_nat (by omega), Option.bind_some, Option.bind_some, ishrO_nat (by omega), Option.bind_some, Option.bind_some, shr_bits_ne, Int.toNat_natCast]
              cases (x.testBit j == y.testBit i) <;> rfl
          · simp
        · rw [if_pos rfl]; rfl
    · simp
  · rw [if_pos (by simp; omega)]
    have : ¬ QuarIn g q := fun hq => hg ⟨hq.1, hq.2.1⟩
    rw [decide_eq_false this]; rfl
end Go.Proofs.YtidhmbmollkhdaaDoor
