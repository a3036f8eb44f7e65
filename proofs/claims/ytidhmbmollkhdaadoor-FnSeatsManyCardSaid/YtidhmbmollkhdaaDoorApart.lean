/- Chapter 6: guests that no dish feeds together. Own work; no program in sight. -/
import Derived.Test.YtidhmbmollkhdaaDoorSeatL
set_option linter.unusedVariables false
namespace Go.Proofs.YtidhmbmollkhdaaDoor
open Go Go.RowKit
theorem pcF_zero_iff : ∀ (k x : Nat), pcF k x = 0 ↔ ∀ i < k, x.testBit i = false
  | 0, x => by simp [pcF]
  | k + 1, x => by
    show x % 2 + pcF k (x / 2) = 0 ↔ _
    rw [Nat.add_eq_zero_iff, pcF_zero_iff k (x / 2)]
    constructor
    · rintro ⟨h0, h1⟩ i hi
      cases i with
      | zero => rw [Nat.testBit_zero, h0]; rfl
      | succ i => rw [Nat.testBit_succ]; exact h1 i (by omega)
    · intro h
      refine ⟨?_, fun i hi => ?_⟩
      · have := h 0 (by omega)
        rw [Nat.testBit_zero] at this
        have := of_decide_eq_false this
        omega
      · rw [← Nat.testBit_succ]; exact h (i + 1) (by omega)
theorem pcF_le_one : ∀ (k x : Nat), pcF k x ≤ 1 ↔ ∀ a < k, ∀ b < k, x.testBit a = true → x.testBit b = true → a = b
  | 0, x => by simp [pcF]
  | k + 1, x => by
    show x % 2 + pcF k (x / 2) ≤ 1 ↔ _
    have h2 : x % 2 = 0 ∨ x % 2 = 1 := by omega
    rcases h2 with h2 | h2
    · rw [h2, Nat.zero_add, pcF_le_one k (x / 2)]
      constructor
      · intro h a ha b hb
        cases a with
        | zero => rw [Nat.testBit_zero, h2]; intro h; cases h
        | succ a =>
          cases b with
          | zero => rw [Nat.testBit_zero, h2]; intro _ h; cases h
          | succ b => rw [Nat.testBit_succ, Nat.testBit_succ]; intro h3 h4; rw [h a (by omega) b (by omega) h3 h4]
      · intro h a ha b hb h3 h4
        have := h (a + 1) (by omega) (b + 1) (by omega) (by rw [Nat.testBit_succ]; exact h3) (by rw [Nat.testBit_succ]; exact h4)
        omega
    · rw [h2]
      have : 1 + pcF k (x / 2) ≤ 1 ↔ pcF k (x / 2) = 0 := by omega
      rw [this, pcF_zero_iff]
      constructor
      · intro h a ha b hb h3 h4
        cases a with
        | zero =>
          cases b with
          | zero => rfl
          | succ b => rw [Nat.testBit_succ, h b (by omega)] at h4; cases h4
        | succ a => rw [Nat.testBit_succ, h a (by omega)] at h3; cases h3
      · intro h i hi
        cases hb : (x / 2).testBit i
        · rfl
        · have := h 0 (by omega) (i + 1) (by omega) (by rw [Nat.testBit_zero, h2]; rfl) (by rw [Nat.testBit_succ]; exact hb)
          omega
theorem pc_le_one {x n : Nat} (hx : x < 2 ^ n) (hn : n ≤ 64) : pc x ≤ 1 ↔ ∀ a b, x.testBit a = true → x.testBit b = true → a = b := by
  unfold pc
  rw [pcF_le_one]
  constructor
  · intro h a b ha hb
    exact h a (by have := bit_lt hx ha; omega) b (by have := bit_lt hx hb; omega) ha hb
  · exact fun h a _ b _ => h a b
/-- the list goes up, within 0 .. n-1 -/
def upAt (n : Int) (a : List Int) (i : Nat) : Bool := decide (0 ≤ a.getD i 0 ∧ a.getD i 0 ≤ n - 1) && !(decide (i > 0) && decide (a.getD (i - 1) 0 ≥ a.getD i 0))
def prevOf (a : List Int) (i : Nat) : Int := if i = 0 then -1 else a.getD (i - 1) 0
def setTo (a : List Int) : Nat → Nat
  | 0 => 0
  | k + 1 => setTo a k ||| 2 ^ (a.getD k 0).toNat
theorem setTo_bit (a : List Int) (b : Nat) : ∀ k, (setTo a k).testBit b = true ↔ ∃ i < k, (a.getD i 0).toNat = b
  | 0 => by simp [setTo]
  | k + 1 => by
    unfold setTo
    rw [Nat.testBit_or, Bool.or_eq_true, setTo_bit a b k, Nat.testBit_two_pow]
    constructor
    · rintro (⟨i, hi, h⟩ | h)
      · exact ⟨i, by omega, h⟩
      · exact ⟨k, by omega, by simpa using h⟩
    · rintro ⟨i, hi, h⟩
      rcases Nat.lt_or_ge i k with hk | hk
      · exact Or.inl ⟨i, hk, h⟩
      · have : i = k := by omega
        subst this
        exact Or.inr (by simpa using h)
theorem up_in {n : Int} {a : List Int} {k : Nat} (h : (List.range k).all (upAt n a) = true) {i : Nat} (hi : i < k) : 0 ≤ a.getD i 0 ∧ a.getD i 0 ≤ n - 1 := by
  have := List.all_eq_true.1 h i (List.mem_range.2 hi)
  unfold upAt at this
  rw [Bool.and_eq_true] at this
  exact of_decide_eq_true this.1
theorem up_lt {n : Int} {a : List Int} {k : Nat} (h : (List.range k).all (upAt n a) = true) : ∀ {i j : Nat}, i < k → j < i → a.getD j 0 < a.getD i 0 := by
  intro i
  induction i with
  | zero => intro j _ hj; omega
  | succ i ih =>
    intro j hi hj
    have := List.all_eq_true.1 h (i + 1) (List.mem_range.2 hi)
    unfold upAt at this
    rw [Bool.and_eq_true] at this
    have h2 : a.getD i 0 < a.getD (i + 1) 0 := by
      have := this.2
      simp only [Nat.add_sub_cancel, gt_iff_lt, Nat.zero_lt_succ, decide_true, Bool.true_and, Bool.not_eq_true', decide_eq_false_iff_not] at this
      omega
    rcases Nat.lt_or_ge j i with hji | hji
    · have := ih (j := j) (by omega) hji; omega
    · have : j = i := by omega
      subst this; exact h2
theorem setTo_lt {n : Nat} {a : List Int} {k : Nat} (h : (List.range k).all (upAt (n : Int) a) = true) : setTo a k < 2 ^ n := by
  apply Nat.lt_pow_two_of_testBit
  intro i hi
  cases hb : (setTo a k).testBit i
  · rfl
  · obtain ⟨j, hj, he⟩ := (setTo_bit a i k).1 hb
    have := up_in h hj
    omega
def apartI (n : Nat) (ms : List Nat) (a : List Int) : Bool := (List.range a.length).all (upAt (n : Int) a) && (List.range ms.length).all fun k => decide (pc (nth ms k &&& setTo a a.length) ≤ 1)
def apartS (n : Nat) (ms : List Nat) (a : List Int) : Bool := (List.range a.length).all fun i => upAt (n : Int) a i && (List.range i).all fun j => (List.range ms.length).all fun k => !((nth ms k).testBit (a.getD i 0).toNat && (nth ms k).testBit (a.getD j 0).toNat)
theorem apart_eq {n : Nat} {ms : List Nat} (a : List Int) (hn : n ≤ 6) (hx : ∀ x ∈ ms, x < 2 ^ n) : apartI n ms a = apartS n ms a := by
  unfold apartI apartS
  rw [Bool.eq_iff_iff, Bool.and_eq_true]
  constructor
  · rintro ⟨hu, hk⟩
    rw [List.all_eq_true]
    intro i hi
    rw [Bool.and_eq_true, List.all_eq_true]
    refine ⟨List.all_eq_true.1 hu i hi, fun j hj => ?_⟩
    rw [List.all_eq_true]
    intro k hkr
    have hin := List.mem_range.1 hi
    have hji := List.mem_range.1 hj
    have hkn := List.mem_range.1 hkr
    have h1 := of_decide_eq_true (List.all_eq_true.1 hk k hkr)
    rw [pc_le_one (Nat.lt_of_le_of_lt Nat.and_le_left (hx _ (nth_mem hkn))) (by omega)] at h1
    cases hb : (nth ms k).testBit (a.getD i 0).toNat
    · rfl
    · cases hb2 : (nth ms k).testBit (a.getD j 0).toNat
      · rfl
      · have h3 := h1 (a.getD i 0).toNat (a.getD j 0).toNat
          (by rw [Nat.testBit_and, hb, Bool.true_and]; exact (setTo_bit a _ _).2 ⟨i, hin, rfl⟩)
          (by rw [Nat.testBit_and, hb2, Bool.true_and]; exact (setTo_bit a _ _).2 ⟨j, by omega, rfl⟩)
        have h4 := up_lt hu hin hji
        have h5 := up_in hu hin
        have h6 := up_in hu (show j < a.length by omega)
        omega
  · intro h
    rw [List.all_eq_true] at h
    have hu : (List.range a.length).all (upAt (n : Int) a) = true := by
      rw [List.all_eq_true]
      intro i hi
      have := h i hi
      rw [Bool.and_eq_true] at this
      exact this.1
    refine ⟨hu, ?_⟩
    rw [List.all_eq_true]
    intro k hkr
    have hkn := List.mem_range.1 hkr
    rw [decide_eq_true_eq, pc_le_one (Nat.lt_of_le_of_lt Nat.and_le_left (hx _ (nth_mem hkn))) (by omega)]
    intro b c hb hc
    rw [Nat.testBit_and, Bool.and_eq_true] at hb hc
    obtain ⟨i, hi, ei⟩ := (setTo_bit a b _).1 hb.2
    obtain ⟨j, hj, ej⟩ := (setTo_bit a c _).1 hc.2
    have cross : ∀ {i j : Nat}, i < a.length → j < i → (nth ms k).testBit (a.getD i 0).toNat = true → (nth ms k).testBit (a.getD j 0).toNat = true → False := by
      intro i j hi hji h1 h2
      have := h i (List.mem_range.2 hi)
      rw [Bool.and_eq_true, List.all_eq_true] at this
      have := List.all_eq_true.1 (this.2 j (List.mem_range.2 hji)) k hkr
      rw [h1, h2] at this; cases this
    rcases Nat.lt_trichotomy i j with hlt | heq | hgt
    · exact (cross hj hlt (by rw [ej]; exact hc.1) (by rw [ei]; exact hb.1)).elim
    · subst heq; rw [← ei, ← ej]
    · exact (cross hi hgt (by rw [ei]; exact hb.1) (by rw [ej]; exact hc.1)).elim
def apartValid (g : Int) (m a : List Int) : Bool := decide (MenuOk g m) && apartS g.toNat (m.map Int.toNat) a
theorem implApartValid_eq (g : Int) (m a : List Int) (h : m.length ≤ 4611686018427387904) (h2 : a.length ≤ 4611686018427387904) : impl_ApartValidS g m a = some (apartValid g m a) := by
  unfold impl_ApartValidS apartValid
  rw [implMenuValid_eq g m h, Option.bind_some]
  by_cases hm : MenuOk g m
  · obtain ⟨n, ms, rfl, hn, rfl, hl, hx⟩ := menu_nat hm
    rw [decide_eq_true hm, if_neg (by simp), map_toNat, Int.toNat_natCast, ← apart_eq a hn hx, Bool.true_and]
    have first := Ret.loop (σ := Int × Int × Int) (ρ := Int ⊕ Bool) (s := (-1, 0, 0)) (step := fun s => match s with
      | (s9, s10, s11) => (if (decide (s11 < (List.length a : Int))) then ((geti a s11).bind fun x13 => (if ((decide (x13 ≤ s9)) || (decide (x13 ≥ (n : Int)))) then (some (.inr (.inr false))) else ((ishlO .i64 1 x13).bind fun x22 => (some (.inl (x13, ior .i64 s10 x22, IntKind.wrap .i64 (s11 + 1))))))) else (some (.inr (.inl s10)))))
      (fun s => ∃ k : Nat, s.2.2 = (k : Int) ∧ k ≤ a.length ∧ (List.range k).all (upAt (n : Int) a) = true ∧ s.1 = prevOf a k ∧ s.2.1 = ((setTo a k : Nat) : Int)) (fun s => a.length - s.2.2.toNat)
      (R := fun r => match r with | .inl z => (List.range a.length).all (upAt (n : Int) a) = true ∧ z = ((setTo a a.length : Nat) : Int) | .inr b => b = false ∧ (List.range a.length).all (upAt (n : Int) a) = false)
      ⟨0, rfl, by omega, rfl, rfl, rfl⟩ ?_
    · obtain ⟨o, ho, hR⟩ := first
      rw [ho, Option.bind_some]
      unfold apartI
      cases o with
      | inr b => obtain ⟨rfl, hb⟩ := hR; simp only [hb, Bool.false_and]
      | inl z =>
        obtain ⟨hu, rfl⟩ := hR
        have hs := setTo_lt hu
        have hs6 := p6 hn hs
        simp only [hu, Bool.true_and]
        rw [loopAll ms.length (fun k => decide (pc (nth ms k &&& setTo a a.length) ≤ 1))]
        · rw [Option.bind_some]; exact fin2 _
        · intro k hk
          have xk := p6 hn (hx _ (nth_mem hk))
          have hand : nth ms k &&& setTo a a.length < 64 := and_lt xk
          simp only [List.length_map]
          rw [if_pos (by simp; omega), geti_nth hk, Option.bind_some, iand_nat (by omega) (by omega), wu (by omega), onesCount_eq _ (by omega), Option.bind_some, wr_succ (n := ms.length) (by omega) hk]
          by_cases hp : pc (nth ms k &&& setTo a a.length) ≤ 1
          · rw [if_neg (by simp; omega), if_pos (decide_eq_true hp)]
          · rw [if_pos (by simp; omega), if_neg (by simpa using hp)]
        · simp
    · rintro ⟨p, z, i⟩ ⟨k, hk, hle, hall, hp, hz⟩
      simp only at hk hp hz
      subst hk; subst hp; subst hz
      refine Ret.ite (fun hlt => ?_) (fun hge => ?_)
      · have hlt' : k < a.length := by simpa using hlt
        rw [geti_getD hlt', Option.bind_some]
        have hstep : upAt (n : Int) a k = !(decide (a.getD k 0 ≤ prevOf a k) || decide (a.getD k 0 ≥ (n : Int))) := by
          unfold upAt prevOf
          cases k with
          | zero =>
            rw [Bool.eq_iff_iff]; simp; omega
          | succ k =>
            have hin := up_in hall (show k < k + 1 by omega)
            rw [if_neg (by omega)]
            simp only [Nat.add_sub_cancel, gt_iff_lt, Nat.zero_lt_succ, decide_true, Bool.true_and]
            generalize a.getD (k + 1) 0 = u at *
            generalize a.getD k 0 = u2 at *
            rw [Bool.eq_iff_iff]; simp; omega
        refine Ret.ite (fun hbad => ?_) (fun hgood => ?_)
        · refine Ret.pure ⟨rfl, ?_⟩
          cases hh : (List.range a.length).all (upAt (n : Int) a)
          · rfl
          · have := List.all_eq_true.1 hh k (List.mem_range.2 hlt')
            rw [hstep, hbad] at this; cases this
        · have hup : upAt (n : Int) a k = true := by rw [hstep, hgood]; rfl
          have hall' : (List.range (k + 1)).all (upAt (n : Int) a) = true := by rw [List.range_succ, List.all_append, hall]; simp [hup]
          have hin := up_in hall' (show k < k + 1 by omega)
          obtain ⟨v, hv⟩ := Int.eq_ofNat_of_zero_le hin.1
          have hs6 := p6 hn (setTo_lt hall)
          have hs7 := p6 hn (setTo_lt hall')
          have hset : setTo a (k + 1) = setTo a k ||| 2 ^ v := by show setTo a k ||| 2 ^ (a.getD k 0).toNat = _; rw [hv, Int.toNat_natCast]
          have hpv := pow61 (k := v) (by omega)
          rw [hv, ishlO_nat (by omega), Option.bind_some, ior_nat (by omega) (by omega), wr_succ (n := a.length) h2 hlt', ← hset]
          refine Ret.pure ⟨⟨k + 1, rfl, by omega, hall', ?_, rfl⟩, by simp; omega⟩
          show (v : Int) = prevOf a (k + 1)
          unfold prevOf
          rw [if_neg (by omega), Nat.add_sub_cancel, hv]
      · have : k = a.length := by have : a.length ≤ k := by simpa using hge
                                  omega
        subst this
        exact Ret.pure ⟨hall, rfl⟩
  · rw [decide_eq_false hm]; rfl
theorem specApartValid_eq (g : Int) (m a : List Int) (h : m.length ≤ 4611686018427387904) (h2 : a.length ≤ 4611686018427387904) : spec_ApartValidS g m a = some (apartValid g m a) := by
  unfold spec_ApartValidS apartValid
  rw [specMenuValid_eq g m h, Option.bind_some]
  by_cases hm : MenuOk g m
  · obtain ⟨n, ms, rfl, hn, rfl, hl, hx⟩ := menu_nat hm
    rw [decide_eq_true hm, if_neg (by simp), map_toNat, Int.toNat_natCast, Bool.true_and]
    rw [loopAllP a.length (fun i => upAt (n : Int) a i && (List.range i).all fun j => (List.range ms.length).all fun k => !((nth ms k).testBit (a.getD i 0).toNat && (nth ms k).testBit (a.getD j 0).toNat))]
    · rw [Option.bind_some]; exact fin2 _
    · intro i hi hpre
      rw [if_pos (by simp only [decide_eq_true_eq]; omega), geti_getD hi, Option.bind_some, l1In_eq, Option.bind_some, wr (x := (n : Int) - 1) ⟨by omega, by omega⟩, wr_succ (n := a.length) h2 hi]
      have hguard : (if (!decide (0 ≤ a.getD i 0 ∧ a.getD i 0 ≤ (n : Int) - 1)) = true then some true else (if decide ((i : Int) > 0) = true then (geti a (IntKind.wrap .i64 ((i : Int) - 1))).bind fun x21 => (some (a.getD i 0)).bind fun x29 => some (decide (x21 ≥ x29)) else some false).bind fun b21 => some b21) = some (!upAt (n : Int) a i) := by
        unfold upAt
        by_cases h0 : i = 0
        · subst h0
          cases decide (0 ≤ a.getD 0 0 ∧ a.getD 0 0 ≤ (n : Int) - 1) <;> rfl
        · rw [wr (x := (i : Int) - 1) ⟨by omega, by omega⟩, show (i : Int) - 1 = ((i - 1 : Nat) : Int) from by omega, geti_getD (by omega)]
          have h3 : decide ((i : Int) > 0) = true := by simp only [decide_eq_true_eq]; omega
          have h4 : decide (i > 0) = true := by simp only [decide_eq_true_eq]; omega
          rw [h3, h4]
          cases decide (0 ≤ a.getD i 0 ∧ a.getD i 0 ≤ (n : Int) - 1) <;> simp
      rw [hguard, Option.bind_some]
      cases hup : upAt (n : Int) a i
      · rfl
      · rw [if_neg (by simp), Bool.true_and]
        have hin : 0 ≤ a.getD i 0 ∧ a.getD i 0 ≤ (n : Int) - 1 := by
          unfold upAt at hup
          rw [Bool.and_eq_true] at hup
          exact of_decide_eq_true hup.1
        obtain ⟨v, hv⟩ := Int.eq_ofNat_of_zero_le hin.1
        rw [hv, Int.toNat_natCast]
        rw [loopAll i (fun j => (List.range ms.length).all fun k => !((nth ms k).testBit v && (nth ms k).testBit (a.getD j 0).toNat))]
        · rw [Option.bind_some]; exact fin3 _ _
        · intro j hj
          have hpj : 0 ≤ a.getD j 0 ∧ a.getD j 0 ≤ (n : Int) - 1 := by
            have := hpre j hj
            rw [Bool.and_eq_true] at this
            have h5 := this.1
            unfold upAt at h5
            rw [Bool.and_eq_true] at h5
            exact of_decide_eq_true h5.1
          obtain ⟨u, hu⟩ := Int.eq_ofNat_of_zero_le hpj.1
          rw [hu, Int.toNat_natCast, if_pos (by simp only [decide_eq_true_eq]; omega), wr_succ (n := a.length) h2 (by omega)]
          rw [loopAll ms.length (fun k => !((nth ms k).testBit v && (nth ms k).testBit u))]
          · rw [Option.bind_some]; exact fin3 _ _
          · intro k hk
            have hk6 := p6 hn (hx _ (nth_mem hk))
            rw [if_pos (by simp only [List.length_map, decide_eq_true_eq]; omega), geti_nth hk, Option.bind_some, Option.bind_some, Option.bind_some, ishrO_nat (by omega), Option.bind_some, shr_bit, geti_getD (s := a) (by omega), hu, Option.bind_some, ishrO_nat (by omega), Option.bind_some, shr_bit, wr_succ (n := ms.length) (by omega) hk]
            cases (nth ms k).testBit v
            · rfl
            · cases (nth ms k).testBit u <;> rfl
          · simp
        · simp
    · simp
  · rw [decide_eq_false hm]; rfl
end Go.Proofs.YtidhmbmollkhdaaDoor
