/- Rows of numbers that fall apart into parts with the sum 0. Own work; no program in sight. -/
import Derived.Test.YtohhaladggoglaaDoorDet
set_option linter.unusedVariables false
namespace Go.Proofs.YtohhaladggoglaaDoor
open Go Go.RowKit
/-- the sum of a row -/
def sm : List Int → Int
  | [] => 0
  | x :: l => x + sm l
theorem sm_append : ∀ l m : List Int, sm (l ++ m) = sm l + sm m
  | [], m => by simp [sm]
  | x :: l, m => by simp only [List.cons_append, sm, sm_append l m]; omega
theorem sm_perm {l m : List Int} (h : l.Perm m) : sm l = sm m := by
  induction h with
  | nil => rfl
  | cons x _ ih => simp [sm, ih]
  | swap x y l => simp only [sm]; omega
  | trans _ _ h1 h2 => exact h1.trans h2
/-- L falls apart into k rows that are not empty, each with the sum 0 -/
def Gr (L : List Int) (k : Nat) : Prop := ∃ Ls : List (List Int), Ls.length = k ∧ (∀ l ∈ Ls, l ≠ [] ∧ sm l = 0) ∧ L.Perm Ls.flatten
theorem Gr.perm {L M : List Int} {k : Nat} (h : Gr L k) (hp : M.Perm L) : Gr M k := by
  obtain ⟨Ls, h1, h2, h3⟩ := h
  exact ⟨Ls, h1, h2, hp.trans h3⟩
theorem Gr.nil : Gr [] 0 := ⟨[], rfl, (fun l hl => by cases hl), .nil⟩
theorem Gr.cons {l M : List Int} {k : Nat} (h0 : l ≠ []) (hs : sm l = 0) (h : Gr M k) : Gr (l ++ M) (k + 1) := by
  obtain ⟨Ls, h1, h2, h3⟩ := h
  refine ⟨l :: Ls, by simp [h1], fun x hx => ?_, by simpa using h3.append_left l⟩
  rcases List.mem_cons.1 hx with rfl | hx
  · exact ⟨h0, hs⟩
  · exact h2 x hx
theorem Gr.one {l : List Int} (h0 : l ≠ []) (hs : sm l = 0) : Gr l 1 := by simpa using Gr.cons h0 hs Gr.nil
theorem Gr.split {L : List Int} {k : Nat} (h : Gr L (k + 1)) : ∃ l M, l ≠ [] ∧ sm l = 0 ∧ Gr M k ∧ L.Perm (l ++ M) := by
  obtain ⟨Ls, h1, h2, h3⟩ := h
  cases Ls with
  | nil => simp at h1
  | cons l Ls => exact ⟨l, Ls.flatten, (h2 l (by simp)).1, (h2 l (by simp)).2, ⟨Ls, by simpa using h1, fun x hx => h2 x (by simp [hx]), .refl _⟩, by simpa using h3⟩
theorem Gr.zero {L : List Int} (h : Gr L 0) : L = [] := by
  obtain ⟨Ls, h1, h2, h3⟩ := h
  have := List.eq_nil_of_length_eq_zero h1
  subst this
  simpa using h3
theorem Gr.append {M : List Int} {j : Nat} (hM : Gr M j) : ∀ {k : Nat} {L : List Int}, Gr L k → Gr (L ++ M) (k + j) := by
  intro k
  induction k with
  | zero => intro L h; rw [h.zero]; simpa using hM
  | succ k ih =>
    intro L h
    obtain ⟨l, N, h0, h1, h2, h3⟩ := h.split
    have := Gr.cons h0 h1 (ih h2)
    rw [show k + 1 + j = k + j + 1 by omega]
    exact this.perm (by simpa [List.append_assoc] using h3.append_right M)
theorem Gr.sum : ∀ {k : Nat} {L : List Int}, Gr L k → sm L = 0 := by
  intro k
  induction k with
  | zero => intro L h; rw [h.zero]; rfl
  | succ k ih =>
    intro L h
    obtain ⟨l, N, h0, h1, h2, h3⟩ := h.split
    rw [sm_perm h3, sm_append, h1, ih h2]; rfl
theorem Gr.le : ∀ {k : Nat} {L : List Int}, Gr L k → k ≤ L.length := by
  intro k
  induction k with
  | zero => intro L h; omega
  | succ k ih =>
    intro L h
    obtain ⟨l, N, h0, h1, h2, h3⟩ := h.split
    have := ih h2
    rw [h3.length_eq, List.length_append]
    have := List.length_pos_iff.2 h0
    omega
/-- where nothing is 0, each part has two -/
theorem Gr.le2 : ∀ {k : Nat} {L : List Int}, Gr L k → (∀ x ∈ L, x ≠ 0) → 2 * k ≤ L.length := by
  intro k
  induction k with
  | zero => intro L h _; omega
  | succ k ih =>
    intro L h hn
    obtain ⟨l, N, h0, h1, h2, h3⟩ := h.split
    have := ih h2 (fun x hx => hn x (h3.mem_iff.2 (List.mem_append_right _ hx)))
    rw [h3.length_eq, List.length_append]
    have : 2 ≤ l.length := by
      match l, h0, h1 with
      | [], h0, _ => exact absurd rfl h0
      | [x], _, h1 =>
        have := hn x (h3.mem_iff.2 (by simp))
        simp [sm] at h1; exact absurd h1 this
      | x :: y :: l, _, _ => simp
    omega
theorem Gr.pos {k : Nat} {L : List Int} (h : Gr L k) (hL : L ≠ []) : 1 ≤ k := by
  cases k with
  | zero => exact absurd h.zero hL
  | succ k => omega
/-- the part in which c is -/
theorem Gr.pick {c : Int} : ∀ {k : Nat} {L R : List Int}, Gr L k → L.Perm (c :: R) → ∃ l0 M j, k = j + 1 ∧ sm (c :: l0) = 0 ∧ Gr M j ∧ R.Perm (l0 ++ M) := by
  intro k
  induction k with
  | zero => intro L R h hp; have := h.zero; subst this; have := hp.length_eq; simp at this
  | succ k ih =>
    intro L R h hp
    obtain ⟨l, N, h0, h1, h2, h3⟩ := h.split
    have hc : c ∈ l ++ N := (hp.symm.trans h3).mem_iff.1 (by simp)
    rcases List.mem_append.1 hc with hc | hc
    · obtain ⟨l0, hl⟩ : ∃ l0, l.Perm (c :: l0) := ⟨l.erase c, List.perm_cons_erase hc⟩
      refine ⟨l0, N, k, rfl, by rw [← sm_perm hl]; exact h1, h2, ?_⟩
      have : (c :: R).Perm (c :: (l0 ++ N)) := hp.symm.trans (h3.trans (by simpa using hl.append_right N))
      exact (List.perm_cons c).1 this
    · obtain ⟨N0, hN⟩ : ∃ N0, N.Perm (c :: N0) := ⟨N.erase c, List.perm_cons_erase hc⟩
      obtain ⟨l0, M, j, rfl, h5, h6, h7⟩ := ih h2 hN
      refine ⟨l0, l ++ M, j + 1, rfl, h5, Gr.cons h0 h1 h6, ?_⟩
      have h8 : (c :: R).Perm (c :: (l ++ N0)) := hp.symm.trans (h3.trans ((hN.append_left l).trans List.perm_middle))
      have h9 := (List.perm_cons c).1 h8
      refine h9.trans ((h7.append_left l).trans ?_)
      rw [← List.append_assoc, ← List.append_assoc]
      exact List.perm_append_comm.append_right M
theorem Gr.unmerge {a b : Int} {R : List Int} {k : Nat} (h : Gr ((a + b) :: R) k) : Gr (a :: b :: R) k := by
  obtain ⟨l0, M, j, rfl, h1, h2, h3⟩ := h.pick (.refl _)
  have : Gr ((a :: b :: l0) ++ M) (j + 1) := Gr.cons (by simp) (by simp only [sm] at h1 ⊢; omega) h2
  exact this.perm (by simpa using (h3.cons b).cons a)
open Classical in
/-- the greatest number of parts -/
noncomputable def gmax (L : List Int) : Nat := if h : ∃ k, Gr L (L.length - k) then L.length - (least h).choose else 0
theorem gmax_spec {L : List Int} (h : sm L = 0) : Gr L (gmax L) := by
  have hx : ∃ k, Gr L (L.length - k) := by
    by_cases hL : L = []
    · subst hL; exact ⟨0, Gr.nil⟩
    · refine ⟨L.length - 1, ?_⟩
      have := List.length_pos_iff.2 hL
      rw [show L.length - (L.length - 1) = 1 by omega]
      exact Gr.one hL h
  unfold gmax
  rw [dif_pos hx]
  exact (least hx).choose_spec.1
theorem gmax_le {L : List Int} {k : Nat} (h : Gr L k) : k ≤ gmax L := by
  have hle := h.le
  have hx : ∃ k, Gr L (L.length - k) := ⟨L.length - k, by rw [show L.length - (L.length - k) = k by omega]; exact h⟩
  unfold gmax
  rw [dif_pos hx]
  have := (least hx).choose_spec.2 (L.length - k) (by rw [show L.length - (L.length - k) = k by omega]; exact h)
  omega
theorem gmax_perm {L M : List Int} (h : L.Perm M) : gmax L = gmax M := by
  have hs := sm_perm h
  by_cases h0 : sm L = 0
  · have h1 := gmax_le ((gmax_spec h0).perm h.symm)
    have h2 := gmax_le ((gmax_spec (by rw [← hs]; exact h0)).perm h)
    omega
  · have key : ∀ L : List Int, sm L ≠ 0 → gmax L = 0 := fun L h0 => by
      unfold gmax
      rw [dif_neg]
      rintro ⟨k, hk⟩
      exact h0 hk.sum
    rw [key L h0, key M (by rw [← hs]; exact h0)]
theorem gmax_pos {L : List Int} (hL : L ≠ []) (h : sm L = 0) : 1 ≤ gmax L := gmax_le (Gr.one hL h)
theorem gmax_nil : gmax [] = 0 := by have := (gmax_spec (L := []) rfl).le; simpa using this
theorem gmax_append {L M : List Int} (h1 : sm L = 0) (h2 : sm M = 0) : gmax L + gmax M ≤ gmax (L ++ M) := by
  have k1 := gmax_spec h1
  have k2 := gmax_spec h2
  exact gmax_le (Gr.append k2 k1)
/-! ### sets of places -/
def vals : List Int → Nat → List Int
  | [], _ => []
  | x :: l, m => if m % 2 = 1 then x :: vals l (m / 2) else vals l (m / 2)
def maskL : List Int → Nat → List Int
  | [], _ => []
  | x :: l, m => (if m % 2 = 1 then x else 0) :: maskL l (m / 2)
theorem vals_zero : ∀ l : List Int, vals l 0 = []
  | [] => rfl
  | x :: l => by simp [vals, vals_zero l]
theorem sm_mask : ∀ (l : List Int) (m : Nat), sm (maskL l m) = sm (vals l m)
  | [], _ => rfl
  | x :: l, m => by
    simp only [maskL, vals]
    split
    · simp [sm, sm_mask l]
    · simp [sm, sm_mask l]
theorem maskL_length : ∀ (l : List Int) (m : Nat), (maskL l m).length = l.length
  | [], _ => rfl
  | x :: l, m => by simp [maskL, maskL_length l]
theorem maskL_filter : ∀ (l : List Int) (m : Nat), (maskL l m).filter (· ≠ 0) = (vals l m).filter (· ≠ 0)
  | [], _ => rfl
  | x :: l, m => by
    simp only [maskL, vals]
    have ih := maskL_filter l (m / 2)
    split
    · simp only [List.filter_cons, ih]
    · simpa using ih
theorem vals_length_le : ∀ (l : List Int) (m : Nat), (vals l m).length ≤ l.length
  | [], _ => Nat.le_refl _
  | x :: l, m => by
    simp only [vals]
    split
    · simp [vals_length_le l]
    · have := vals_length_le l (m / 2); simp; omega
theorem vals_mem : ∀ (l : List Int) (m : Nat) (x : Int), x ∈ vals l m → x ∈ l
  | [], _, x, h => h
  | y :: l, m, x, h => by
    simp only [vals] at h
    split at h
    · rcases List.mem_cons.1 h with rfl | h
      · simp
      · exact List.mem_cons_of_mem _ (vals_mem l _ x h)
    · exact List.mem_cons_of_mem _ (vals_mem l _ x h)
def Sub (a b : Nat) : Prop := a &&& b = a
instance (a b : Nat) : Decidable (Sub a b) := inferInstanceAs (Decidable (a &&& b = a))
theorem Sub.le {a b : Nat} (h : Sub a b) : a ≤ b := by unfold Sub at h; rw [← h]; exact Nat.and_le_right
theorem and_low (a b : Nat) : (a &&& b) % 2 = 1 ↔ a % 2 = 1 ∧ b % 2 = 1 := by
  have := Nat.testBit_and a b 0
  simp only [Nat.testBit_zero] at this
  rcases Nat.mod_two_eq_zero_or_one a with h1 | h1 <;> rcases Nat.mod_two_eq_zero_or_one b with h2 | h2 <;> simp_all
theorem Sub.half {a b : Nat} (h : Sub a b) : Sub (a / 2) (b / 2) ∧ (a % 2 = 1 → b % 2 = 1) := by
  unfold Sub at *
  have h1 : (a &&& b) / 2 = a / 2 &&& b / 2 := Nat.and_div_two
  refine ⟨by rw [← h1, h], fun ha => ?_⟩
  have := (and_low a b).1 (by rw [h]; exact ha)
  exact this.2
theorem Sub.mk {a b r s : Nat} (h : Sub a b) (hr : r < 2) (hs : s < 2) (hrs : r = 1 → s = 1) : Sub (2 * a + r) (2 * b + s) := by
  unfold Sub at *
  apply Nat.eq_of_testBit_eq
  intro i
  cases i with
  | zero =>
    rw [Nat.testBit_and, Nat.testBit_zero, Nat.testBit_zero]
    rcases (by omega : r = 0 ∨ r = 1) with rfl | rfl <;> rcases (by omega : s = 0 ∨ s = 1) with rfl | rfl <;> simp_all
  | succ i =>
    rw [Nat.testBit_and, Nat.testBit_succ, Nat.testBit_succ, show (2 * a + r) / 2 = a by omega, show (2 * b + s) / 2 = b by omega, ← Nat.testBit_and, h]
theorem minus_sub {a b : Nat} (h : Sub a b) : minus b a = b - a := by
  have h1 : minus b a + a = b := by
    have h2 := or_and_add (b + a + 1) (minus b a) a (by have := minus_le b a; have := @Nat.lt_two_pow_self (b + a + 1); omega) (by have := @Nat.lt_two_pow_self (b + a + 1); omega)
    have h3 : minus b a &&& a = 0 := by
      apply Nat.eq_of_testBit_eq; intro i
      rw [Nat.testBit_and, testBit_minus, Nat.zero_testBit]; cases b.testBit i <;> cases a.testBit i <;> rfl
    have h4 : minus b a ||| a = b := by
      apply Nat.eq_of_testBit_eq; intro i
      have h5 : (a &&& b).testBit i = a.testBit i := by rw [h]
      rw [Nat.testBit_and] at h5
      rw [Nat.testBit_or, testBit_minus]; cases hb : b.testBit i <;> cases ha : a.testBit i <;> simp_all
    omega
  omega
theorem minus_half (b a : Nat) : minus b a / 2 = minus (b / 2) (a / 2) ∧ (minus b a % 2 = 1 ↔ b % 2 = 1 ∧ ¬ a % 2 = 1) := by
  constructor
  · apply Nat.eq_of_testBit_eq; intro i
    rw [Nat.testBit_div_two, testBit_minus, testBit_minus, Nat.testBit_div_two, Nat.testBit_div_two]
  · have := testBit_minus b a 0
    simp only [Nat.testBit_zero] at this
    rcases Nat.mod_two_eq_zero_or_one a with h1 | h1 <;> rcases Nat.mod_two_eq_zero_or_one b with h2 | h2 <;> simp_all
theorem minus_Sub (b a : Nat) : Sub (minus b a) b := by
  unfold Sub
  apply Nat.eq_of_testBit_eq; intro i
  rw [Nat.testBit_and, testBit_minus]; cases b.testBit i <;> cases a.testBit i <;> rfl
theorem Sub.trans {a b c : Nat} (h : Sub a b) (k : Sub b c) : Sub a c := by
  unfold Sub at *
  rw [← h, Nat.and_assoc, k]
theorem vals_split : ∀ (l : List Int) {a b : Nat}, Sub a b → (vals l b).Perm (vals l a ++ vals l (minus b a))
  | [], a, b, _ => .nil
  | x :: l, a, b, h => by
    obtain ⟨h1, h2⟩ := h.half
    obtain ⟨h3, h4⟩ := minus_half b a
    have ih := vals_split l h1
    simp only [vals, h3]
    by_cases ha : a % 2 = 1
    · rw [if_pos (h2 ha), if_pos ha, if_neg (fun e => (h4.1 e).2 ha)]
      exact ih.cons x
    · by_cases hb : b % 2 = 1
      · rw [if_pos hb, if_neg ha, if_pos (h4.2 ⟨hb, ha⟩)]
        exact (ih.cons x).trans List.perm_middle.symm
      · rw [if_neg hb, if_neg ha, if_neg (fun e => hb (h4.1 e).1)]
        exact ih
theorem vals_pick : ∀ (l : List Int) {b : Nat} {p q : List Int}, (vals l b).Perm (p ++ q) → b < 2 ^ l.length → ∃ a, Sub a b ∧ (vals l a).Perm p ∧ (vals l (minus b a)).Perm q
  | [], b, p, q, h, hb => by
    have h0 : b = 0 := by simpa using hb
    have := h.length_eq
    simp only [vals, List.length_nil, List.length_append] at this
    have hp : p = [] := List.eq_nil_of_length_eq_zero (by omega)
    have hq : q = [] := List.eq_nil_of_length_eq_zero (by omega)
    subst hp; subst hq; subst h0
    exact ⟨0, rfl, .nil, .nil⟩
  | x :: l, b, p, q, h, hb => by
    have hb2 : b / 2 < 2 ^ l.length := by rw [List.length_cons, Nat.pow_succ] at hb; omega
    have hmk : ∀ (r : Nat) (a' : Nat), r < 2 → minus b (2 * a' + r) / 2 = minus (b / 2) a' ∧ (minus b (2 * a' + r) % 2 = 1 ↔ b % 2 = 1 ∧ ¬ r = 1) := fun r a' hr => by
      have := minus_half b (2 * a' + r)
      rwa [show (2 * a' + r) / 2 = a' by omega, show (2 * a' + r) % 2 = r by omega] at this
    simp only [vals] at h
    split at h
    · rename_i hb1
      have hm : x ∈ p ++ q := h.mem_iff.1 (by simp)
      rcases List.mem_append.1 hm with hm | hm
      · have hp := List.perm_cons_erase hm
        have h2 : (vals l (b / 2)).Perm (p.erase x ++ q) := (List.perm_cons x).1 (h.trans (by simpa using hp.append_right q))
        obtain ⟨a', h3, h4, h5⟩ := vals_pick l h2 hb2
        obtain ⟨h6, h7⟩ := hmk 1 a' (by omega)
        refine ⟨2 * a' + 1, ?_, ?_, ?_⟩
        · have := h3.mk (r := 1) (s := b % 2) (by omega) (by omega) (fun _ => hb1)
          rwa [show 2 * (b / 2) + b % 2 = b by omega] at this
        · simp only [vals]
          rw [if_pos (by omega), show (2 * a' + 1) / 2 = a' by omega]
          exact (h4.cons x).trans hp.symm
        · simp only [vals]
          rw [if_neg (by rw [h7]; simp), h6]; exact h5
      · have hq := List.perm_cons_erase hm
        have h2 : (vals l (b / 2)).Perm (p ++ q.erase x) := (List.perm_cons x).1 (h.trans ((hq.append_left p).trans List.perm_middle))
        obtain ⟨a', h3, h4, h5⟩ := vals_pick l h2 hb2
        obtain ⟨h6, h7⟩ := hmk 0 a' (by omega)
        refine ⟨2 * a' + 0, ?_, ?_, ?_⟩
        · have := h3.mk (r := 0) (s := b % 2) (by omega) (by omega) (by omega)
          rwa [show 2 * (b / 2) + b % 2 = b by omega] at this
        · simp only [vals]
          rw [if_neg (by omega), show (2 * a' + 0) / 2 = a' by omega]
          exact h4
        · simp only [vals]
          rw [if_pos (h7.2 ⟨hb1, by omega⟩), h6]
          exact (h5.cons x).trans hq.symm
    · rename_i hb1
      obtain ⟨a', h3, h4, h5⟩ := vals_pick l h hb2
      obtain ⟨h6, h7⟩ := hmk 0 a' (by omega)
      refine ⟨2 * a' + 0, ?_, ?_, ?_⟩
      · have := h3.mk (r := 0) (s := b % 2) (by omega) (by omega) (by omega)
        rwa [show 2 * (b / 2) + b % 2 = b by omega] at this
      · simp only [vals]
        rw [if_neg (by omega), show (2 * a' + 0) / 2 = a' by omega]
        exact h4
      · simp only [vals]
        rw [if_neg (by rw [h7]; simp [hb1]), h6]; exact h5
/-- how often a set can be divided; -1 if its sum is not 0 -/
noncomputable def tab (l : List Int) (b : Nat) : Int := if sm (vals l b) = 0 then (gmax (vals l b) : Int) else -1
theorem vals_nil_iff : ∀ (l : List Int) {b : Nat}, b < 2 ^ l.length → (vals l b = [] ↔ b = 0)
  | [], b, hb => by simp at hb; subst hb; simp [vals]
  | x :: l, b, hb => by
    have ih := vals_nil_iff l (b := b / 2) (by rw [List.length_cons, Nat.pow_succ] at hb; omega)
    simp only [vals]
    split
    · simp; omega
    · rw [ih]; omega
theorem tab_zero (l : List Int) : tab l 0 = 0 := by unfold tab; rw [vals_zero, if_pos (show sm [] = 0 from rfl), gmax_nil]; rfl
theorem tab_pos {l : List Int} {b : Nat} (hb : b < 2 ^ l.length) (h0 : b ≠ 0) : 1 ≤ tab l b ↔ sm (vals l b) = 0 := by
  unfold tab
  constructor
  · intro h; split at h
    · assumption
    · omega
  · intro h
    rw [if_pos h]
    have := gmax_pos (fun e => h0 ((vals_nil_iff l hb).1 e)) h
    omega
theorem tab_rest {l : List Int} {a b : Nat} (hs : Sub a b) (h : sm (vals l b) = 0) (ha : sm (vals l a) = 0) : sm (vals l (minus b a)) = 0 := by
  have := sm_perm (vals_split l hs)
  rw [sm_append] at this; omega
/-- a division's parts -/
theorem tab_add {l : List Int} {a b : Nat} (hs : Sub a b) (ha : sm (vals l a) = 0) (h : sm (vals l b) = 0) : tab l a + tab l (minus b a) ≤ tab l b := by
  unfold tab
  rw [if_pos h, if_pos ha, if_pos (tab_rest hs h ha)]
  have := gmax_append ha (tab_rest hs h ha)
  rw [← gmax_perm (vals_split l hs)] at this
  omega
/-- a set that can be divided has a part that cannot, with as good a rest -/
theorem tab_part {l : List Int} {b : Nat} (hb : b < 2 ^ l.length) (h : sm (vals l b) = 0) (h2 : 2 ≤ tab l b) : ∃ a, Sub a b ∧ a ≠ 0 ∧ a ≠ b ∧ sm (vals l a) = 0 ∧ tab l a = 1 ∧ tab l (minus b a) = tab l b - 1 := by
  have h3 := gmax_spec h
  unfold tab at h2
  rw [if_pos h] at h2
  obtain ⟨k, hk⟩ : ∃ k, gmax (vals l b) = k + 1 := ⟨gmax (vals l b) - 1, by omega⟩
  rw [hk] at h3
  obtain ⟨p, q, h4, h5, h6, h7⟩ := h3.split
  obtain ⟨a, ha, hp, hq⟩ := vals_pick l h7 hb
  have hsa : sm (vals l a) = 0 := by rw [sm_perm hp]; exact h5
  have hab : a < 2 ^ l.length := Nat.lt_of_le_of_lt ha.le hb
  have ha0 : a ≠ 0 := fun e => by
    subst e
    rw [vals_zero] at hp
    exact h4 (List.Perm.nil_eq hp).symm
  have hgq : k ≤ gmax (vals l (minus b a)) := gmax_le (h6.perm hq)
  have hga : 1 ≤ gmax (vals l a) := gmax_pos (fun e => ha0 ((vals_nil_iff l hab).1 e)) hsa
  have hadd := tab_add ha hsa h
  have hr := tab_rest ha h hsa
  refine ⟨a, ha, ha0, fun e => ?_, hsa, ?_, ?_⟩
  · subst e
    have : minus a a = 0 := by apply Nat.eq_of_testBit_eq; intro i; rw [testBit_minus, Nat.zero_testBit]; cases a.testBit i <;> rfl
    rw [this, vals_zero, gmax_nil] at hgq
    omega
  · unfold tab at hadd ⊢
    rw [if_pos h, if_pos hsa, if_pos hr] at hadd
    rw [if_pos hsa]; omega
  · unfold tab at hadd ⊢
    rw [if_pos h, if_pos hsa, if_pos hr] at hadd
    rw [if_pos h, if_pos hr]; omega
end Go.Proofs.YtohhaladggoglaaDoor
