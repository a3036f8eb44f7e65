/- Rows told by functions; the order of the greatest remainders. Own work; no program in sight. -/
import Derived.Test.YtohhaladggoglaaDoorOwed
set_option linter.unusedVariables false
namespace Go.Proofs.YtohhaladggoglaaDoor
open Go Go.RowKit
/-- a row of n numbers told by a function -/
def ra (n : Nat) (f : Nat → Int) : List Int := (List.range n).map f
theorem ra_length (n : Nat) (f : Nat → Int) : (ra n f).length = n := by simp [ra]
theorem ra_geti {n k : Nat} (f : Nat → Int) (h : k < n) : geti (ra n f) (k : Int) = some (f k) := by
  rw [geti_lt' (by rw [ra_length]; exact h)]; simp [ra]
theorem ra_at {n k : Nat} (f : Nat → Int) (h : k < n) : at0 (ra n f) k = f k := by
  have := ra_geti f h
  rw [geti_at0 (by rw [ra_length]; exact h)] at this
  exact Option.some.inj this
theorem ra_ext {n : Nat} {f g : Nat → Int} (h : ∀ k, k < n → f k = g k) : ra n f = ra n g := by
  apply List.ext_getElem
  · simp [ra]
  · intro i h1 h2
    simp only [ra, List.getElem_map, List.getElem_range]
    exact h i (by simpa [ra] using h1)
theorem ra_set (n : Nat) (f : Nat → Int) (k : Nat) (v : Int) : List.set (ra n f) (Int.toNat (k : Int)) v = ra n (fun j => if j = k then v else f j) := by
  apply List.ext_getElem
  · simp [ra]
  · intro i h1 h2
    simp only [ra, Int.toNat_natCast, List.getElem_set, List.getElem_map, List.getElem_range]
    by_cases h : k = i
    · subst h; simp
    · rw [if_neg h, if_neg (fun e => h e.symm)]
theorem ra_of (xs : List Int) : xs = ra xs.length (at0 xs) := by
  apply ext_at0 (by rw [ra_length])
  intro i hi
  rw [ra_at _ hi]
theorem mk_ra {n : Nat} (h : n ≤ 1000) : mkO (0 : Int) (n : Int) = some (ra n fun _ => 0) := by
  rw [mk0 (by omega) (by omega)]
  congr 1
  apply List.ext_getElem
  · simp [ra]
  · intro i h1 h2; simp [ra]
theorem ra_succ (n : Nat) (f : Nat → Int) : ra (n + 1) f = ra n f ++ [f n] := by unfold ra; rw [List.range_succ, List.map_append]; rfl
theorem sm_ra_succ (n : Nat) (f : Nat → Int) : sm (ra (n + 1) f) = sm (ra n f) + f n := by rw [ra_succ, sm_append]; simp [sm]
theorem sm_ra_lin (n : Nat) (f g : Nat → Int) (S : Int) : sm (ra n (fun k => f k * S + g k)) = sm (ra n f) * S + sm (ra n g) := by
  induction n with
  | zero => simp [ra, sm]
  | succ n ih => rw [sm_ra_succ, sm_ra_succ, sm_ra_succ, ih, Int.add_mul]; omega
theorem sm_ra_mul (n : Nat) (f : Nat → Int) (T : Int) : sm (ra n (fun k => T * f k)) = T * sm (ra n f) := by
  induction n with
  | zero => simp [ra, sm]
  | succ n ih => rw [sm_ra_succ, sm_ra_succ, ih, Int.mul_add]
theorem sm_ra_le (n : Nat) (f : Nat → Int) (B : Int) (h : ∀ k, k < n → f k ≤ B) : sm (ra n f) ≤ n * B := by
  induction n with
  | zero => simp [ra, sm]
  | succ n ih =>
    have := ih (fun k hk => h k (by omega))
    have h2 := h n (by omega)
    rw [sm_ra_succ, Int.natCast_succ, Int.add_mul]; omega
theorem sm_ra_nonneg (n : Nat) (f : Nat → Int) (h : ∀ k, k < n → 0 ≤ f k) : 0 ≤ sm (ra n f) := by
  induction n with
  | zero => simp [ra, sm]
  | succ n ih =>
    have := ih (fun k hk => h k (by omega))
    have h2 := h n (by omega)
    rw [sm_ra_succ]; omega
/-! ### who comes first -/
def bef (r : Nat → Int) (a b : Nat) : Prop := r b < r a ∨ (r a = r b ∧ a < b)
theorem bef.trans {r : Nat → Int} {a b c : Nat} (h : bef r a b) (k : bef r b c) : bef r a c := by unfold bef at *; omega
theorem bef.asymm {r : Nat → Int} {a b : Nat} (h : bef r a b) (k : bef r b a) : False := by unfold bef at *; omega
theorem bef.irrefl {r : Nat → Int} {a : Nat} (h : bef r a a) : False := by unfold bef at *; omega
/-- the numbers below n, in that order -/
structure Rk (r : Nat → Int) (n : Nat) (L : List Nat) : Prop where
  perm : L.Perm (List.range n)
  sorted : L.Pairwise (bef r)
theorem Rk.length {r : Nat → Int} {n : Nat} {L : List Nat} (h : Rk r n L) : L.length = n := by have := h.perm.length_eq; simpa using this
theorem Rk.lt {r : Nat → Int} {n : Nat} {L : List Nat} (h : Rk r n L) {a : Nat} (ha : a ∈ L) : a < n := List.mem_range.1 (h.perm.mem_iff.1 ha)
theorem Rk.mem {r : Nat → Int} {n : Nat} {L : List Nat} (h : Rk r n L) {a : Nat} (ha : a < n) : a ∈ L := h.perm.mem_iff.2 (List.mem_range.2 ha)
theorem Rk.nodup {r : Nat → Int} {n : Nat} {L : List Nat} (h : Rk r n L) : L.Nodup := h.perm.nodup_iff.2 List.nodup_range
theorem Rk.get {r : Nat → Int} {n : Nat} {L : List Nat} (h : Rk r n L) {i j : Nat} (hij : i < j) (hj : j < L.length) : bef r (nth L i) (nth L j) := by
  have := List.pairwise_iff_getElem.1 h.sorted i j (by omega) hj hij
  rwa [nth_lt (by omega), nth_lt hj]
theorem mem_take_nth {L : List Nat} {a j : Nat} (h : a ∈ L.take j) : ∃ i, i < j ∧ i < L.length ∧ nth L i = a := by
  obtain ⟨i, hi, e⟩ := List.mem_iff_getElem.1 h
  rw [List.length_take] at hi
  refine ⟨i, by omega, by omega, ?_⟩
  rw [List.getElem_take] at e
  rw [nth_lt (by omega), e]
theorem nth_mem_take {L : List Nat} {i j : Nat} (h : i < j) (hl : i < L.length) : nth L i ∈ L.take j := by
  rw [nth_lt hl]
  exact List.mem_iff_getElem.2 ⟨i, by rw [List.length_take]; omega, by rw [List.getElem_take]⟩
theorem Rk.nth_inj {r : Nat → Int} {n : Nat} {L : List Nat} (h : Rk r n L) {i j : Nat} (hi : i < L.length) (hj : j < L.length) (e : nth L i = nth L j) : i = j := by
  rcases Nat.lt_trichotomy i j with h1 | h1 | h1
  · have := h.get h1 hj; rw [e] at this; exact absurd this (fun k => k.irrefl)
  · exact h1
  · have := h.get h1 hi; rw [e] at this; exact absurd this (fun k => k.irrefl)
theorem Rk.not_take {r : Nat → Int} {n : Nat} {L : List Nat} (h : Rk r n L) {j : Nat} (hj : j < L.length) : nth L j ∉ L.take j := fun hm => by
  obtain ⟨i, hi, hl, e⟩ := mem_take_nth hm
  have := h.nth_inj hl hj e
  omega
/-- who comes before one of the first is one of them -/
theorem Rk.prefix {r : Nat → Int} {n : Nat} {L : List Nat} (h : Rk r n L) {a b j : Nat} (ha : a < n) (hb : b ∈ L.take j) (hab : bef r a b) : a ∈ L.take j := by
  obtain ⟨i, hi, hl, rfl⟩ := mem_take_nth hb
  obtain ⟨k, hk, e⟩ := List.mem_iff_getElem.1 (h.mem ha)
  have hka : nth L k = a := by rw [nth_lt hk, e]
  subst hka
  refine nth_mem_take ?_ hk
  rcases Nat.lt_or_ge k i with h1 | h1
  · omega
  · rcases Nat.lt_or_eq_of_le h1 with h2 | h2
    · exact absurd hab (fun x => x.asymm (h.get h2 hk))
    · subst h2; exact absurd hab (fun x => x.irrefl)
/-- the first of those that are left -/
theorem Rk.next {r : Nat → Int} {n : Nat} {L : List Nat} (h : Rk r n L) {j b : Nat} (hj : j < L.length) (hb : b < n) (hbn : b ∉ L.take j) (hbest : ∀ k, k < n → k ∉ L.take j → k = b ∨ bef r b k) : b = nth L j := by
  have h1 := hbest (nth L j) (h.lt (nth_mem hj)) (h.not_take hj)
  rcases h1 with h1 | h1
  · exact h1.symm
  · obtain ⟨k, hk, e⟩ := List.mem_iff_getElem.1 (h.mem hb)
    have hkb : nth L k = b := by rw [nth_lt hk, e]
    subst hkb
    rcases Nat.lt_trichotomy k j with h2 | h2 | h2
    · exact absurd (nth_mem_take h2 hk) hbn
    · rw [h2]
    · exact absurd h1 (fun x => x.asymm (h.get h2 hk))
/-- each one's part, when the first j have got one more -/
def inc (q : Nat → Int) (L : List Nat) (j : Nat) (k : Nat) : Int := q k + (if k ∈ L.take j then 1 else 0)
theorem inc_zero (q : Nat → Int) (L : List Nat) (k : Nat) : inc q L 0 k = q k := by simp [inc]
theorem inc_succ {r : Nat → Int} {n : Nat} {L : List Nat} (h : Rk r n L) (q : Nat → Int) {j : Nat} (hj : j < L.length) (k : Nat) : inc q L (j + 1) k = if k = nth L j then inc q L j k + 1 else inc q L j k := by
  unfold inc
  have e : L.take (j + 1) = L.take j ++ [nth L j] := by rw [List.take_succ_eq_append_getElem hj, nth_lt hj]
  rw [e]
  by_cases h1 : k = nth L j
  · subst h1
    rw [if_pos rfl, if_pos (by simp), if_neg (h.not_take hj)]; omega
  · rw [if_neg h1]
    by_cases h2 : k ∈ L.take j
    · rw [if_pos h2, if_pos (List.mem_append_left _ h2)]
    · rw [if_neg h2, if_neg (fun hm => by
        rcases List.mem_append.1 hm with h3 | h3
        · exact h2 h3
        · simp at h3; exact h1 h3)]
theorem inc_set {r : Nat → Int} {n : Nat} {L : List Nat} (h : Rk r n L) (q : Nat → Int) {j : Nat} (hj : j < L.length) : List.set (ra n (inc q L j)) (Int.toNat ((nth L j : Nat) : Int)) (inc q L j (nth L j) + 1) = ra n (inc q L (j + 1)) := by
  rw [ra_set]
  apply ra_ext
  intro k hk
  rw [inc_succ h q hj]
  by_cases h1 : k = nth L j
  · rw [if_pos h1, if_pos h1, h1]
  · rw [if_neg h1, if_neg h1]
theorem inc_sum {r : Nat → Int} {n : Nat} {L : List Nat} (h : Rk r n L) (q : Nat → Int) : ∀ j, j ≤ L.length → sm (ra n (inc q L j)) = sm (ra n q) + j
  | 0, _ => by rw [ra_ext (fun k _ => inc_zero q L k)]; simp
  | j + 1, hj => by
    have ih := inc_sum h q j (by omega)
    have hlt := h.lt (nth_mem (qs := L) (k := j) (by omega))
    have hs := sm_set (ra n (inc q L j)) (nth L j) (inc q L j (nth L j) + 1) (by rw [ra_length]; exact hlt)
    have e := inc_set h q (j := j) (by omega)
    rw [Int.toNat_natCast] at e
    rw [e, ra_at _ hlt] at hs
    omega
/-! ### the parts -/
section parts
variable {n : Nat} {sh : Nat → Int} {T S : Int} {L : List Nat}
def quo (T S : Int) (sh : Nat → Int) (k : Nat) : Int := T * sh k / S
def rest (T S : Int) (sh : Nat → Int) (k : Nat) : Int := T * sh k % S
theorem quo_rest (hS : 0 < S) (k : Nat) : T * sh k = quo T S sh k * S + rest T S sh k := by
  unfold quo rest
  have := Int.mul_ediv_add_emod (T * sh k) S
  rw [Int.mul_comm] at this; omega
theorem rest_lt (hS : 0 < S) (k : Nat) : 0 ≤ rest T S sh k ∧ rest T S sh k < S := ⟨Int.emod_nonneg _ (by omega), Int.emod_lt_of_pos _ hS⟩
theorem quo_nonneg {k : Nat} (hS : 0 < S) (hT : 0 ≤ T) (h : 0 ≤ sh k) : 0 ≤ quo T S sh k := Int.ediv_nonneg (Int.mul_nonneg hT h) (by omega)
/-- what is left over -/
theorem left_eq (hS : 0 < S) (hsum : sm (ra n sh) = S) : (T - sm (ra n (quo T S sh))) * S = sm (ra n (rest T S sh)) := by
  have h1 := sm_ra_mul n sh T
  have h2 := sm_ra_lin n (quo T S sh) (rest T S sh) S
  rw [ra_ext (f := fun k => T * sh k) (g := fun k => quo T S sh k * S + rest T S sh k) (fun k _ => quo_rest hS k), h2, hsum] at h1
  rw [Int.sub_mul]; omega
theorem left_bounds (hS : 0 < S) (hsum : sm (ra n sh) = S) (hn : 0 < n) : 0 ≤ T - sm (ra n (quo T S sh)) ∧ T - sm (ra n (quo T S sh)) < n := by
  have h1 := left_eq (T := T) hS hsum
  have h2 := sm_ra_nonneg n (rest T S sh) (fun k _ => (rest_lt hS k).1)
  have h3 := sm_ra_le n (rest T S sh) (S - 1) (fun k _ => by have := (rest_lt (T := T) (sh := sh) hS k).2; omega)
  generalize T - sm (ra n (quo T S sh)) = d at h1 ⊢
  constructor
  · rcases Int.lt_or_le d 0 with h | h
    · have : d * S < 0 := Int.mul_neg_of_neg_of_pos h hS
      omega
    · exact h
  · rcases Int.lt_or_le d n with h | h
    · exact h
    · have h4 : (n : Int) * S ≤ d * S := Int.mul_le_mul_of_nonneg_right h (by omega)
      have h5 : (n : Int) * (S - 1) = n * S - n := by rw [Int.mul_sub]; omega
      omega
/-- those who get one more have something left over -/
theorem top_pos (hS : 0 < S) (hsum : sm (ra n sh) = S) (hL : Rk (rest T S sh) n L) {left : Nat} (hleft : (left : Int) = T - sm (ra n (quo T S sh))) {a : Nat} (ha : a ∈ L.take left) : 0 < rest T S sh a := by
  obtain ⟨p, hp, hpl, rfl⟩ := mem_take_nth ha
  rcases Int.lt_or_le 0 (rest T S sh (nth L p)) with h | h
  · exact h
  · exfalso
    have h0 : rest T S sh (nth L p) = 0 := by have := (rest_lt (T := T) (sh := sh) hS (nth L p)).1; omega
    have hle := left_eq (T := T) hS hsum
    rw [← hleft] at hle
    -- only the first p have something
    have hz : ∀ k, k < n → rest T S sh k ≤ (S - 1) * (inc (fun _ => 0) L p k) := fun k hk => by
      have hr := rest_lt (T := T) (sh := sh) hS k
      unfold inc
      by_cases hm : k ∈ L.take p
      · rw [if_pos hm]
        show rest T S sh k ≤ (S - 1) * (0 + 1)
        rw [Int.zero_add, Int.mul_one]; omega
      · rw [if_neg hm]
        show rest T S sh k ≤ (S - 1) * (0 + 0)
        rw [Int.add_zero, Int.mul_zero]
        obtain ⟨i, hi, e⟩ := List.mem_iff_getElem.1 (hL.mem hk)
        have hki : nth L i = k := by rw [nth_lt hi, e]
        subst hki
        have hpi : p ≤ i := by
          rcases Nat.lt_or_ge i p with h1 | h1
          · exact absurd (nth_mem_take h1 hi) hm
          · exact h1
        have : rest T S sh (nth L i) ≤ 0 := by
          rcases Nat.lt_or_eq_of_le hpi with h1 | h1
          · have := hL.get h1 hi
            unfold bef at this; omega
          · subst h1; omega
        omega
    have hsumle : ∀ m, (∀ k, k < m → rest T S sh k ≤ (S - 1) * (inc (fun _ => 0) L p k)) → sm (ra m (rest T S sh)) ≤ (S - 1) * sm (ra m (inc (fun _ => 0) L p)) := by
      intro m
      induction m with
      | zero => intro _; simp [ra, sm]
      | succ m ih =>
        intro h
        have := ih (fun k hk => h k (by omega))
        have h2 := h m (by omega)
        rw [sm_ra_succ, sm_ra_succ, Int.mul_add]; omega
    have h1 := hsumle n hz
    have h2 := inc_sum hL (fun _ => 0) p (by omega)
    have h3 : sm (ra n (fun _ => 0)) = 0 := by
      have a1 := sm_ra_nonneg n (fun _ => 0) (fun _ _ => Int.le_refl _)
      have a2 := sm_ra_le n (fun _ => 0) 0 (fun _ _ => Int.le_refl _)
      rw [Int.mul_zero] at a2; omega
    rw [h2, h3, Int.zero_add] at h1
    have h4 : (S - 1) * (p : Int) ≤ (S - 1) * left := Int.mul_le_mul_of_nonneg_left (by omega) (by omega)
    have h5 : (S - 1) * (p : Int) = p * S - p := by rw [Int.sub_mul, Int.one_mul, Int.mul_comm]
    have h6 : (p : Int) * S + S ≤ left * S := by
      have : ((p : Int) + 1) * S ≤ left * S := Int.mul_le_mul_of_nonneg_right (by omega) (by omega)
      rw [Int.add_mul] at this; omega
    omega
end parts
end Go.Proofs.YtohhaladggoglaaDoor
