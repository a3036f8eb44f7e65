/- Chapter 6: the first seats, the fewest tables. Own work; no program in sight. -/
import Derived.Test.YtidhmbmollkhdaaDoorClique
set_option linter.unusedVariables false
namespace Go.Proofs.YtidhmbmollkhdaaDoor
open Go Go.RowKit
/-! arrays as functions of the index -/
def arr (n : Nat) (f : Nat → Int) : List Int := (List.range n).map f
theorem arr_length (n : Nat) (f : Nat → Int) : (arr n f).length = n := by simp [arr]
theorem arr_geti {n k : Nat} (f : Nat → Int) (h : k < n) : geti (arr n f) (k : Int) = some (f k) := by
  rw [geti_lt' (by rw [arr_length]; exact h)]; simp [arr]
theorem arr_set (n : Nat) (f : Nat → Int) (k : Nat) (v : Int) : List.set (arr n f) (Int.toNat (k : Int)) v = arr n (fun j => if j = k then v else f j) := by
  apply List.ext_getElem
  · simp [arr]
  · intro i h1 h2
    simp only [arr, Int.toNat_natCast, List.getElem_set, List.getElem_map, List.getElem_range]
    by_cases hk : k = i
    · subst hk; simp
    · rw [if_neg hk, if_neg (fun e => hk e.symm)]
theorem arr_ext {n : Nat} {f g : Nat → Int} (h : ∀ k, k < n → f k = g k) : arr n f = arr n g := by
  apply List.ext_getElem
  · simp [arr]
  · intro i h1 h2
    simp only [arr, List.getElem_map, List.getElem_range]
    exact h i (by simpa [arr] using h1)
theorem mkO_arr {n : Nat} (h : n ≤ 1099511627776) : mkO (0 : Int) (n : Int) = some (arr n fun _ => 0) := by
  unfold mkO room
  rw [if_pos (by simp; omega)]
  congr 1
  apply List.ext_getElem
  · simp [arr]
  · intro i h1 h2; simp [arr]
/-! the first number that passes -/
def upTo (p : Nat → Bool) : Nat → Nat → Nat
  | t, 0 => t
  | t, n + 1 => if p t then upTo p (t + 1) n else t
theorem upTo_le (p : Nat → Bool) : ∀ n t, t ≤ upTo p t n ∧ upTo p t n ≤ t + n
  | 0, t => by simp [upTo]
  | n + 1, t => by
    unfold upTo
    split
    · have := upTo_le p n (t + 1); omega
    · omega
theorem upTo_below (p : Nat → Bool) : ∀ n t j, t ≤ j → j < upTo p t n → p j = true
  | 0, t, j, h1, h2 => by simp [upTo] at h2; omega
  | n + 1, t, j, h1, h2 => by
    unfold upTo at h2
    split at h2
    · rename_i hp
      by_cases hj : t = j
      · subst hj; exact hp
      · exact upTo_below p n (t + 1) j (by omega) h2
    · omega
theorem upTo_at (p : Nat → Bool) : ∀ n t m, t ≤ m → m ≤ t + n → p m = false → p (upTo p t n) = false
  | 0, t, m, h1, h2, h3 => by
    have : m = t := by omega
    subst this; exact h3
  | n + 1, t, m, h1, h2, h3 => by
    unfold upTo
    split
    · rename_i hp
      have : m ≠ t := fun e => by subst e; rw [h3] at hp; cases hp
      exact upTo_at p n (t + 1) m (by omega) (by omega) h3
    · rename_i hp; simpa using hp
theorem pigeon : ∀ (n : Nat) (l : List Nat), l.length < n → ∃ m, m < n ∧ m ∉ l
  | 0, l, h => by omega
  | n + 1, l, h => by
    by_cases hn : n ∈ l
    · obtain ⟨m, hm, hml⟩ := pigeon n (l.erase n) (by rw [List.length_erase_of_mem hn]; have := List.length_pos_of_mem hn; omega)
      exact ⟨m, by omega, fun h2 => hml ((List.mem_erase_of_ne (by omega)).2 h2)⟩
    · exact ⟨n, by omega, hn⟩
/-- the guests before a who sit at t and with whom a does not sit -/
def clashL (qs s : List Nat) (a t : Nat) : Bool := (List.range a).any fun b => nth s b == t && (nth qs a).testBit b
def seatsTo (qs : List Nat) : Nat → List Nat
  | 0 => []
  | a + 1 => seatsTo qs a ++ [upTo (clashL qs (seatsTo qs a) a) 0 a]
def seat (qs : List Nat) (a : Nat) : Nat := upTo (clashL qs (seatsTo qs a) a) 0 a
theorem seatsTo_eq (qs : List Nat) : ∀ a, seatsTo qs a = (List.range a).map (seat qs)
  | 0 => rfl
  | a + 1 => by
    rw [List.range_succ, List.map_append, ← seatsTo_eq qs a]; rfl
theorem seatsTo_length (qs : List Nat) (a : Nat) : (seatsTo qs a).length = a := by rw [seatsTo_eq]; simp
theorem nth_seatsTo (qs : List Nat) {a b : Nat} (h : b < a) : nth (seatsTo qs a) b = seat qs b := by
  rw [seatsTo_eq, nth_lt (by simpa using h)]; simp
theorem clash_iff (qs : List Nat) (a t : Nat) : clashL qs (seatsTo qs a) a t = true ↔ ∃ b, b < a ∧ seat qs b = t ∧ (nth qs a).testBit b = true := by
  unfold clashL
  rw [List.any_eq_true]
  constructor
  · rintro ⟨b, hb, h⟩
    have hba := List.mem_range.1 hb
    rw [nth_seatsTo qs hba, Bool.and_eq_true, beq_iff_eq] at h
    exact ⟨b, hba, h.1, h.2⟩
  · rintro ⟨b, hb, h1, h2⟩
    exact ⟨b, List.mem_range.2 hb, by rw [nth_seatsTo qs hb, h1, h2]; simp⟩
theorem seat_le (qs : List Nat) (a : Nat) : seat qs a ≤ a := by have := (upTo_le (clashL qs (seatsTo qs a) a) a 0).2; unfold seat; omega
theorem seat_below (qs : List Nat) {a t : Nat} (h : t < seat qs a) : clashL qs (seatsTo qs a) a t = true := upTo_below _ a 0 t (by omega) h
theorem free_le (qs : List Nat) (a : Nat) {t : Nat} (h : ∀ j, j < t → clashL qs (seatsTo qs a) a j = true) : t ≤ a := by
  rcases Nat.lt_or_ge a t with h1 | h1
  · obtain ⟨m, hm, hml⟩ := pigeon (a + 1) (seatsTo qs a) (by rw [seatsTo_length]; omega)
    obtain ⟨b, hb, h2, _⟩ := (clash_iff qs a m).1 (h m (by omega))
    exact absurd (by rw [seatsTo_eq]; exact List.mem_map.2 ⟨b, List.mem_range.2 hb, h2⟩) hml
  · exact h1
theorem seat_free (qs : List Nat) (a : Nat) : clashL qs (seatsTo qs a) a (seat qs a) = false := by
  obtain ⟨m, hm, hml⟩ := pigeon (a + 1) (seatsTo qs a) (by rw [seatsTo_length]; omega)
  refine upTo_at _ a 0 m (by omega) (by omega) ?_
  cases hc : clashL qs (seatsTo qs a) a m
  · rfl
  · obtain ⟨b, hb, h2, _⟩ := (clash_iff qs a m).1 hc
    exact absurd (by rw [seatsTo_eq]; exact List.mem_map.2 ⟨b, List.mem_range.2 hb, h2⟩) hml
theorem seat_unique (qs : List Nat) (a : Nat) {t : Nat} (h : ∀ j, j < t → clashL qs (seatsTo qs a) a j = true) (hf : clashL qs (seatsTo qs a) a t = false) : t = seat qs a := by
  rcases Nat.lt_trichotomy t (seat qs a) with h1 | h1 | h1
  · rw [seat_below qs h1] at hf; cases hf
  · exact h1
  · have := h _ h1; rw [seat_free] at this; cases this
def castL (l : List Nat) : List Int := l.map fun x : Nat => (x : Int)
theorem geti_cast {l : List Nat} {k : Nat} (h : k < l.length) : geti (castL l) (k : Int) = some ((nth l k : Nat) : Int) := geti_nth h
theorem appO_cast (l : List Nat) (x : Nat) (h : l.length < 1099511627776) : appO (castL l) [(x : Int)] = some (castL (l ++ [x])) := by
  unfold appO room
  rw [if_pos (by simp [castL]; omega)]; simp [castL]
theorem specSeatsFirst_eq (g : Int) (q : List Int) (h : q.length ≤ 4611686018427387904) : spec_SeatsFirstS g q = some (if quarValid g q then castL (seatsTo (q.map Int.toNat) q.length) else []) := by
  unfold spec_SeatsFirstS
  simp only [specQuarrelsValid_eq g q h]
  cases hv : quarValid g q
  · rw [loopDet (fun k => (([] : List Int), (k : Int))) 0 []]
    · rfl
    · rfl
    · intro k hk; omega
    · simp only [Option.bind_some]
      cases decide ((((0 : Nat) : Int)) < g) <;> rfl
  · obtain ⟨qs, rfl, rfl, hn, hx, hq⟩ := quarValid_nat hv
    rw [map_toNat, if_pos rfl, List.length_map]
    rw [loopDet (fun k => (castL (seatsTo qs k), (k : Int))) qs.length (castL (seatsTo qs qs.length))]
    · rfl
    · rfl
    · intro a ha
      have hqa := p6 hn (hx _ (nth_mem ha))
      simp only [Option.bind_some]
      rw [if_pos (by simp only [decide_eq_true_eq]; omega), Option.bind_some, if_pos rfl]
      have inner : ∀ (st : Int × Int → Option ((Int × Int) ⊕ Int)), (∀ t b : Nat, b < a → t ≤ a → st ((t : Int), (b : Int)) = some (if nth (seatsTo qs a) b == t && (nth qs a).testBit b then .inl (((t + 1 : Nat) : Int), ((0 : Nat) : Int)) else .inl ((t : Int), ((b + 1 : Nat) : Int)))) → (∀ t : Nat, st ((t : Int), (a : Int)) = some (.inr (t : Int))) → loop (σ := Int × Int) (ρ := Int) st (0, 0) = some ((seat qs a : Nat) : Int) := by
        intro st h1 h2
        apply Ret.eq
        refine Ret.loop (fun s => ∃ t b : Nat, s = ((t : Int), (b : Int)) ∧ b ≤ a ∧ (∀ j, j < t → clashL qs (seatsTo qs a) a j = true) ∧ ∀ c, c < b → (nth (seatsTo qs a) c == t && (nth qs a).testBit c) = false) (fun s => (a + 1 - s.1.toNat) * (a + 2) + (a - s.2.toNat)) ⟨0, 0, rfl, by omega, fun j hj => by omega, fun c hc => by omega⟩ ?_
        rintro s ⟨t, b, rfl, hb, hj, hc⟩
        have hta := free_le qs a hj
        rcases Nat.lt_or_ge b a with hlt | hge
        · rw [h1 t b hlt hta]
          cases hh : (nth (seatsTo qs a) b == t && (nth qs a).testBit b)
          · refine Ret.pure ⟨⟨t, b + 1, rfl, by omega, hj, fun c hcb => ?_⟩, ?_⟩
            · rcases Nat.lt_or_ge c b with h3 | h3
              · exact hc c h3
              · have : c = b := by omega
                subst this; exact hh
            · simp; omega
          · have hcl : clashL qs (seatsTo qs a) a t = true := List.any_eq_true.2 ⟨b, List.mem_range.2 hlt, hh⟩
            have hj' : ∀ j, j < t + 1 → clashL qs (seatsTo qs a) a j = true := fun j h3 => by
              rcases Nat.lt_or_ge j t with h4 | h4
              · exact hj j h4
              · have : j = t := by omega
                subst this; exact hcl
            refine Ret.pure ⟨⟨t + 1, 0, rfl, by omega, hj', fun c hcb => by omega⟩, ?_⟩
            obtain ⟨v, hv⟩ : ∃ v, a + 1 - t = v + 1 := ⟨a - t, by omega⟩
            have hv2 : a + 1 - (t + 1) = v := by omega
            simp only [Int.toNat_natCast, hv, hv2, Nat.add_mul]
            omega
        · have : b = a := by omega
          subst this
          rw [h2 t]
          refine Ret.pure ?_
          rw [seat_unique qs b hj]
          unfold clashL
          rw [List.any_eq_false]
          intro c hcm
          rw [hc c (List.mem_range.1 hcm)]; simp
      rw [inner]
      · rw [Option.bind_some, appO_cast _ _ (by rw [seatsTo_length]; omega), Option.bind_some, wr_succ (n := qs.length) (by omega) ha]
        rfl
      · intro t b hb hta
        simp only
        rw [if_pos (by simp only [decide_eq_true_eq]; omega), geti_cast (by rw [seatsTo_length]; exact hb), Option.bind_some, geti_nth ha, Option.bind_some, ishrO_nat (by omega), Option.bind_some, shr_bit, wr_succ (n := qs.length) (by omega) (by omega), wr_succ (n := qs.length) (by omega) (show b < qs.length by omega)]
        have he : (((nth (seatsTo qs a) b : Nat) : Int) == (t : Int)) = (nth (seatsTo qs a) b == t) := by
          rw [Bool.eq_iff_iff, beq_iff_eq, beq_iff_eq]; omega
        rw [he]
        cases (nth (seatsTo qs a) b == t)
        · rfl
        · cases (nth qs a).testBit b <;> rfl
      · intro t
        simp only
        rw [if_neg (by simp)]
    · simp only [Option.bind_some]
      rw [if_neg (by simp)]; rfl
def tabTo (s : Nat → Nat) : Nat → Nat → Nat
  | 0, _ => 0
  | k + 1, t => if s k = t then tabTo s k t ||| 2 ^ k else tabTo s k t
theorem tabTo_bit (s : Nat → Nat) (b t : Nat) : ∀ k, (tabTo s k t).testBit b = true ↔ b < k ∧ s b = t
  | 0 => by simp [tabTo]
  | k + 1 => by
    unfold tabTo
    by_cases h : s k = t
    · rw [if_pos h, Nat.testBit_or, Bool.or_eq_true, tabTo_bit s b t k, Nat.testBit_two_pow]
      constructor
      · rintro (⟨h1, h2⟩ | h1)
        · exact ⟨by omega, h2⟩
        · have : k = b := by simpa using h1
          subst this; exact ⟨by omega, h⟩
      · rintro ⟨h1, h2⟩
        rcases Nat.lt_or_ge b k with h3 | h3
        · exact .inl ⟨h3, h2⟩
        · exact .inr (by simp; omega)
    · rw [if_neg h, tabTo_bit s b t k]
      constructor
      · rintro ⟨h1, h2⟩; exact ⟨by omega, h2⟩
      · rintro ⟨h1, h2⟩
        refine ⟨?_, h2⟩
        rcases Nat.lt_or_ge b k with h3 | h3
        · exact h3
        · have : b = k := by omega
          subst this; exact absurd h2 h
theorem tabTo_lt (s : Nat → Nat) (k t : Nat) : tabTo s k t < 2 ^ k := by
  apply Nat.lt_pow_two_of_testBit
  intro i hi
  cases hb : (tabTo s k t).testBit i
  · rfl
  · have := ((tabTo_bit s i t k).1 hb).1; omega
theorem tab_clash (qs : List Nat) (a t : Nat) : (tabTo (seat qs) a t &&& nth qs a == 0) = !clashL qs (seatsTo qs a) a t := by
  rw [Bool.eq_iff_iff, beq_iff_eq, eq_zero_iff_bits]
  constructor
  · intro h
    cases hc : clashL qs (seatsTo qs a) a t
    · rfl
    · obtain ⟨b, hb, h1, h2⟩ := (clash_iff qs a t).1 hc
      have := h b
      rw [Nat.testBit_and, (tabTo_bit _ b t a).2 ⟨hb, h1⟩, h2] at this; cases this
  · intro h b
    cases hb : (tabTo (seat qs) a t &&& nth qs a).testBit b
    · rfl
    · rw [Nat.testBit_and, Bool.and_eq_true] at hb
      obtain ⟨h1, h2⟩ := (tabTo_bit _ b t a).1 hb.1
      rw [(clash_iff qs a t).2 ⟨b, h1, h2, hb.2⟩] at h; cases h
theorem implSeatsFirst_eq (g : Int) (q : List Int) (h : q.length ≤ 4611686018427387904) : impl_SeatsFirstS g q = some (if quarValid g q then castL (seatsTo (q.map Int.toNat) q.length) else []) := by
  unfold impl_SeatsFirstS
  rw [implQuarrelsValid_eq g q h, Option.bind_some]
  cases hv : quarValid g q
  · rfl
  · obtain ⟨qs, rfl, rfl, hn, hx, hq⟩ := quarValid_nat hv
    rw [map_toNat, if_pos rfl, List.length_map, if_neg (by simp), mkO_arr (by omega), Option.bind_some, Option.bind_some]
    rw [loopDet (fun k => (arr qs.length (fun j => if j < k then ((seat qs j : Nat) : Int) else 0), arr qs.length (fun t => ((tabTo (seat qs) k t : Nat) : Int)), (k : Int))) qs.length (castL (seatsTo qs qs.length))]
    · rfl
    · simp only [tabTo]
      rw [arr_ext (f := fun j => if j < 0 then ((seat qs j : Nat) : Int) else 0) (g := fun _ => 0) (fun k _ => by simp)]
      rfl
    · intro a ha
      have hqa := p6 hn (hx _ (nth_mem ha))
      have hsl := seat_le qs a
      have htl : ∀ t, tabTo (seat qs) a t < 64 := fun t => Nat.lt_of_lt_of_le (tabTo_lt _ _ _) (Nat.pow_le_pow_right (n := 2) (by omega) (show a ≤ 6 by omega))
      simp only [List.length_map]
      rw [if_pos (by simp only [decide_eq_true_eq]; omega), geti_nth ha, Option.bind_some]
      rw [loopDet (fun t => arr qs.length (fun j => if j = a then (t : Int) else if j < a then ((seat qs j : Nat) : Int) else 0)) (seat qs a) (arr qs.length (fun j => if j = a then ((seat qs a : Nat) : Int) else if j < a then ((seat qs j : Nat) : Int) else 0))]
      · rw [Option.bind_some, arr_geti _ ha, Option.bind_some]
        simp only [if_true]
        rw [arr_geti _ (by omega), Option.bind_some, ishlO_nat (by omega), Option.bind_some, Option.bind_some, arr_set, wr_succ (n := qs.length) (by omega) ha]
        have hp6 : 2 ^ a < 64 := Nat.pow_lt_pow_right (a := 2) (by omega) (show a < 6 by omega)
        have := htl (seat qs a)
        rw [ior_nat (by omega) (by omega)]
        congr 3
        · apply arr_ext
          intro k hk
          by_cases hka : k = a
          · subst hka; simp
          · rw [if_neg hka]
            by_cases h2 : k < a
            · rw [if_pos h2, if_pos (by omega)]
            · rw [if_neg h2, if_neg (by omega)]
        · congr 1
          apply arr_ext
          intro t ht
          simp only [tabTo]
          by_cases hta : t = seat qs a
          · subst hta; simp
          · rw [if_neg hta, if_neg (fun e => hta e.symm)]
      · apply arr_ext
        intro k hk
        by_cases hka : k = a
        · subst hka; simp
        · simp [hka]
      · intro t ht
        have hcl := seat_below qs ht
        have hne := tab_clash qs a t
        rw [hcl] at hne
        have := htl t
        rw [arr_geti _ ha, Option.bind_some]
        simp only [if_true]
        rw [arr_geti _ (by omega), Option.bind_some, iand_nat (by omega) (by omega)]
        have hne2 : ¬ (tabTo (seat qs) a t &&& nth qs a = 0) := by simpa using hne
        rw [if_pos (by simp only [bne_iff_ne, ne_eq]; omega), Option.bind_some, Option.bind_some, arr_set, wr_succ (n := seat qs a) (by omega) ht]
        congr 2
        apply arr_ext
        intro k hk
        by_cases hka : k = a
        · simp [hka]
        · simp [hka]
      · have hne := tab_clash qs a (seat qs a)
        rw [seat_free] at hne
        have := htl (seat qs a)
        rw [arr_geti _ ha, Option.bind_some]
        simp only [if_true]
        rw [arr_geti _ (by omega), Option.bind_some, iand_nat (by omega) (by omega)]
        have hne2 : tabTo (seat qs) a (seat qs a) &&& nth qs a = 0 := by simpa using hne
        rw [hne2, if_neg (by simp)]
    · simp only [List.length_map]
      rw [if_neg (by simp), seatsTo_eq]
      congr 2
      unfold arr castL
      rw [List.map_map]
      apply List.map_congr_left
      intro k hk
      rw [if_pos (List.mem_range.1 hk)]; rfl
/-! the checks on lists that a law makes -/
end Go.Proofs.YtidhmbmollkhdaaDoor
