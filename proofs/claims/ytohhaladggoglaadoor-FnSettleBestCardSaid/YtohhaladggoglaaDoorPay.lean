/- Payments that settle what is owed. Own work; no program in sight. -/
import Derived.Test.YtohhaladggoglaaDoorGrp
set_option linter.unusedVariables false
namespace Go.Proofs.YtohhaladggoglaaDoor
open Go Go.RowKit
abbrev PayL := List (Int × Int × Int)
/-- what somebody has paid by payments, less what was got -/
def flow : PayL → Int → Int
  | [], _ => 0
  | p :: l, i => (if p.1 = i then p.2.2 else 0) - (if p.2.1 = i then p.2.2 else 0) + flow l i
theorem flow_append : ∀ (l m : PayL) (i : Int), flow (l ++ m) i = flow l i + flow m i
  | [], m, i => by simp [flow]
  | p :: l, m, i => by simp only [List.cons_append, flow, flow_append l m i]; omega
def mrg (f t a : Int) : Int := if a = f then t else a
def mrgP (f t : Int) (p : Int × Int × Int) : Int × Int × Int := (mrg f t p.1, mrg f t p.2.1, p.2.2)
theorem flow_mrg {f t : Int} (hne : f ≠ t) : ∀ (l : PayL) (i : Int), flow (l.map (mrgP f t)) i = if i = f then 0 else if i = t then flow l t + flow l f else flow l i
  | [], i => by simp [flow]
  | p :: l, i => by
    have ih := flow_mrg hne l i
    simp only [List.map_cons, flow, ih, mrgP, mrg]
    by_cases h1 : i = f
    · subst h1
      by_cases ha : p.1 = i <;> by_cases hb : p.2.1 = i <;> simp [ha, hb, Ne.symm hne]
    · by_cases h2 : i = t
      · subst h2
        by_cases ha : p.1 = f <;> by_cases hb : p.2.1 = f <;> simp [ha, hb, h1, Ne.symm h1, hne] <;> omega
      · by_cases ha : p.1 = f <;> by_cases hb : p.2.1 = f <;> simp [ha, hb, h1, Ne.symm h1, h2, Ne.symm h2]
def nzs (l : List Int) : List Int := l.filter (fun x => decide (x ≠ 0))
theorem nzs_cons (x : Int) (l : List Int) : nzs (x :: l) = if x = 0 then nzs l else x :: nzs l := by
  unfold nzs
  rw [List.filter_cons]
  by_cases h : x = 0 <;> simp [h]
theorem nzs_perm {l m : List Int} (h : l.Perm m) : (nzs l).Perm (nzs m) := h.filter _
theorem nodup_pull {I : List Int} {f : Int} (hn : I.Nodup) (hf : f ∈ I) : ∃ J, I.Perm (f :: J) ∧ J.Nodup ∧ f ∉ J ∧ ∀ x ∈ I, x ≠ f → x ∈ J := by
  have h := List.perm_cons_erase hf
  have h2 := (h.nodup_iff).1 hn
  rw [List.nodup_cons] at h2
  exact ⟨I.erase f, h, h2.2, h2.1, fun x hx hne => (List.mem_erase_of_ne hne).2 hx⟩
/-- who settles with m payments is as many as the parts and m -/
theorem pays_bound {I : List Int} (hI : I.Nodup) : ∀ (m : Nat) (x : Int → Int) (ps : PayL), ps.length = m → (∀ p ∈ ps, p.1 ∈ I ∧ p.2.1 ∈ I) → (∀ i ∈ I, x i + flow ps i = 0) →
    ∃ k, Gr (nzs (I.map x)) k ∧ (nzs (I.map x)).length ≤ k + m := by
  intro m
  induction m with
  | zero =>
    intro x ps hl hp hx
    have := List.eq_nil_of_length_eq_zero hl
    subst this
    have hz : nzs (I.map x) = [] := by
      unfold nzs
      rw [List.filter_eq_nil_iff]
      intro a ha
      obtain ⟨i, hi, rfl⟩ := List.mem_map.1 ha
      have := hx i hi
      simp [flow] at this
      simp [this]
    rw [hz]
    exact ⟨0, Gr.nil, by simp⟩
  | succ m ih =>
    intro x ps hl hp hx
    cases ps with
    | nil => simp at hl
    | cons p ps =>
      obtain ⟨f, t, s⟩ := p
      have hlm : ps.length = m := by simpa using hl
      by_cases hft : f = t
      · subst hft
        obtain ⟨k, h1, h2⟩ := ih x ps hlm (fun p h => hp p (by simp [h])) (fun i hi => by have := hx i hi; simp only [flow] at this; omega)
        exact ⟨k, h1, by omega⟩
      · obtain ⟨hfI, htI⟩ := hp (f, t, s) (by simp)
        simp only at hfI htI
        let x' : Int → Int := fun i => if i = f then 0 else if i = t then x t + x f else x i
        have hmem : ∀ p ∈ ps.map (mrgP f t), p.1 ∈ I ∧ p.2.1 ∈ I := by
          intro p h
          obtain ⟨q, hq, rfl⟩ := List.mem_map.1 h
          have := hp q (by simp [hq])
          simp only [mrgP, mrg]
          constructor
          · split
            · exact htI
            · exact this.1
          · split
            · exact htI
            · exact this.2
        have hzero : ∀ i ∈ I, x' i + flow (ps.map (mrgP f t)) i = 0 := by
          intro i hi
          rw [flow_mrg hft]
          simp only [x']
          have h1 := hx f hfI
          have h2 := hx t htI
          have h3 := hx i hi
          simp only [flow] at h1 h2 h3
          rw [if_pos trivial, if_neg (fun e => hft e.symm)] at h1
          rw [if_neg hft, if_pos trivial] at h2
          by_cases e1 : i = f
          · rw [if_pos e1, if_pos e1]; omega
          · by_cases e2 : i = t
            · rw [if_neg e1, if_neg e1, if_pos e2, if_pos e2]; omega
            · rw [if_neg e1, if_neg e1, if_neg e2, if_neg e2]
              rw [if_neg (fun e => e1 e.symm), if_neg (fun e => e2 e.symm)] at h3
              omega
        obtain ⟨k, h1, h2⟩ := ih x' (ps.map (mrgP f t)) (by simp [hlm]) hmem hzero
        obtain ⟨J, hJ, hJn, hfJ, hin⟩ := nodup_pull hI hfI
        obtain ⟨K, hK, hKn, htK, hin2⟩ := nodup_pull hJn (hin t htI (fun e => hft e.symm))
        have hp2 : I.Perm (f :: t :: K) := hJ.trans (hK.cons f)
        have hfK : f ∉ K := fun h => hfJ (hK.mem_iff.2 (by simp [h]))
        have hR : K.map x' = K.map x := by
          apply List.map_congr_left
          intro i hi
          simp only [x']
          rw [if_neg (show ¬ i = f from fun e => hfK (e ▸ hi)), if_neg (show ¬ i = t from fun e => htK (e ▸ hi))]
        have hxf : x' f = 0 := by simp [x']
        have hxt : x' t = x t + x f := by simp [x', Ne.symm hft]
        have hL : (nzs (I.map x)).Perm (nzs (x f :: x t :: K.map x)) := nzs_perm (by simpa using hp2.map x)
        have hL' : (nzs (I.map x')).Perm (nzs (0 :: (x t + x f) :: K.map x)) := nzs_perm (by have := hp2.map x'; rw [List.map_cons, List.map_cons, hxf, hxt, hR] at this; exact this)
        rw [nzs_cons, if_pos rfl] at hL'
        have g1 := h1.perm hL'.symm
        have l1 := hL'.length_eq
        have l2 := hL.length_eq
        rw [nzs_cons] at hL' g1 l1
        rw [nzs_cons, nzs_cons] at hL l2
        by_cases hf0 : x f = 0
        · rw [if_pos hf0] at hL l2
          rw [hf0, Int.add_zero] at hL' g1 l1
          exact ⟨k, g1.perm hL, by omega⟩
        · rw [if_neg hf0] at hL l2
          by_cases ht0 : x t = 0
          · rw [if_pos ht0] at hL l2
            rw [ht0, Int.zero_add, if_neg hf0] at hL' g1 l1
            exact ⟨k, g1.perm hL, by omega⟩
          · rw [if_neg ht0] at hL l2
            by_cases hs0 : x t + x f = 0
            · rw [if_pos hs0] at hL' g1 l1
              refine ⟨k + 1, (Gr.cons (l := [x f, x t]) (by simp) (by simp only [sm]; omega) g1).perm hL, ?_⟩
              simp only [List.length_cons] at l2
              omega
            · rw [if_neg hs0, Int.add_comm] at hL' g1
              rw [if_neg hs0] at l1
              refine ⟨k, g1.unmerge.perm hL, ?_⟩
              simp only [List.length_cons] at l1 l2
              omega
/-! ### the quick way -/
def at0 (xs : List Int) (i : Nat) : Int := xs.getD i 0
theorem at0_set (xs : List Int) (i j : Nat) (v : Int) : at0 (xs.set i v) j = if i = j ∧ j < xs.length then v else at0 xs j := by
  unfold at0
  rw [List.getD_eq_getElem?_getD, List.getD_eq_getElem?_getD, List.getElem?_set]
  by_cases h : i = j
  · subst h
    by_cases h2 : i < xs.length
    · simp [h2]
    · simp [h2]
  · simp [h]
theorem at0_ge {xs : List Int} {i : Nat} (h : xs.length ≤ i) : at0 xs i = 0 := by unfold at0; rw [List.getD_eq_getElem?_getD, List.getElem?_eq_none h]; rfl
theorem at0_mem {xs : List Int} {i : Nat} (h : i < xs.length) : at0 xs i ∈ xs := by unfold at0; rw [List.getD_eq_getElem?_getD, List.getElem?_eq_getElem h]; exact List.getElem_mem h
theorem mem_at0 {xs : List Int} {x : Int} (h : x ∈ xs) : ∃ i, i < xs.length ∧ at0 xs i = x := by
  obtain ⟨i, hi, rfl⟩ := List.mem_iff_getElem.1 h
  exact ⟨i, hi, by unfold at0; rw [List.getD_eq_getElem?_getD, List.getElem?_eq_getElem hi]; rfl⟩
theorem ext_at0 {xs ys : List Int} (hl : xs.length = ys.length) (h : ∀ i, i < xs.length → at0 xs i = at0 ys i) : xs = ys := by
  apply List.ext_getElem hl
  intro i h1 h2
  have := h i h1
  unfold at0 at this
  rw [List.getD_eq_getElem?_getD, List.getD_eq_getElem?_getD, List.getElem?_eq_getElem h1, List.getElem?_eq_getElem h2] at this
  simpa using this
def nzc (xs : List Int) : Nat := (nzs xs).length
theorem nzc_cons (x : Int) (l : List Int) : nzc (x :: l) = (if x = 0 then 0 else 1) + nzc l := by
  unfold nzc; rw [nzs_cons]; split <;> simp; omega
theorem nzc_set : ∀ (xs : List Int) (i : Nat) (v : Int), i < xs.length → nzc (xs.set i v) + (if at0 xs i = 0 then 0 else 1) = nzc xs + (if v = 0 then 0 else 1)
  | [], i, v, h => by simp at h
  | x :: xs, 0, v, h => by
    simp only [List.set_cons_zero, nzc_cons]
    have : at0 (x :: xs) 0 = x := rfl
    rw [this]; omega
  | x :: xs, i + 1, v, h => by
    have := nzc_set xs i v (by simpa using h)
    simp only [List.set_cons_succ, nzc_cons]
    have e : at0 (x :: xs) (i + 1) = at0 xs i := by simp [at0]
    rw [e]; omega
theorem sm_set : ∀ (xs : List Int) (i : Nat) (v : Int), i < xs.length → sm (xs.set i v) + at0 xs i = sm xs + v
  | [], i, v, h => by simp at h
  | x :: xs, 0, v, h => by
    simp only [List.set_cons_zero, sm]
    have : at0 (x :: xs) 0 = x := rfl
    rw [this]; omega
  | x :: xs, i + 1, v, h => by
    have := sm_set xs i v (by simpa using h)
    simp only [List.set_cons_succ, sm]
    have e : at0 (x :: xs) (i + 1) = at0 xs i := by simp [at0]
    rw [e]; omega
def MinAt (xs : List Int) (f : Nat) : Prop := f < xs.length ∧ (∀ j, j < xs.length → at0 xs f ≤ at0 xs j) ∧ ∀ j, j < f → at0 xs f < at0 xs j
def MaxAt (xs : List Int) (f : Nat) : Prop := f < xs.length ∧ (∀ j, j < xs.length → at0 xs j ≤ at0 xs f) ∧ ∀ j, j < f → at0 xs j < at0 xs f
theorem MinAt.uniq {xs : List Int} {f g : Nat} (h : MinAt xs f) (k : MinAt xs g) : f = g := by
  rcases Nat.lt_trichotomy f g with h1 | h1 | h1
  · have := k.2.2 f h1; have := h.2.1 g k.1; omega
  · exact h1
  · have := h.2.2 g h1; have := k.2.1 f h.1; omega
theorem MaxAt.uniq {xs : List Int} {f g : Nat} (h : MaxAt xs f) (k : MaxAt xs g) : f = g := by
  rcases Nat.lt_trichotomy f g with h1 | h1 | h1
  · have := k.2.2 f h1; have := h.2.1 g k.1; omega
  · exact h1
  · have := h.2.2 g h1; have := k.2.1 f h.1; omega
def payS (xs : List Int) (f t : Nat) : Int := if at0 xs t < -at0 xs f then at0 xs t else -at0 xs f
def payD (xs : List Int) (f t : Nat) : List Int := (xs.set f (at0 xs f + payS xs f t)).set t (at0 xs t - payS xs f t)
inductive Fast : List Int → PayL → Prop where
  | stop {xs : List Int} (h : ∀ x ∈ xs, x = 0) : Fast xs []
  | step {xs : List Int} {f t : Nat} {ps : PayL} (hf : MinAt xs f) (ht : MaxAt xs t) (h0 : at0 xs f < 0) (h1 : 0 < at0 xs t) (h : Fast (payD xs f t) ps) : Fast xs (((f : Int), (t : Int), payS xs f t) :: ps)
theorem Fast.uniq {xs : List Int} {p q : PayL} (h : Fast xs p) : Fast xs q → p = q := by
  induction h generalizing q with
  | stop h =>
    intro k
    cases k with
    | stop _ => rfl
    | step hf ht h0 h1 k => have := h _ (at0_mem hf.1); omega
  | step hf ht h0 h1 h ih =>
    intro k
    cases k with
    | stop k => have := k _ (at0_mem hf.1); omega
    | step hf' ht' h0' h1' k =>
      obtain rfl := hf.uniq hf'
      obtain rfl := ht.uniq ht'
      rw [ih k]
section step
variable {xs : List Int} {f t : Nat}
theorem payD_length : (payD xs f t).length = xs.length := by simp [payD]
theorem payD_at (hf : f < xs.length) (ht : t < xs.length) (h0 : at0 xs f < 0) (h1 : 0 < at0 xs t) (i : Nat) : at0 (payD xs f t) i = at0 xs i + (if f = i then payS xs f t else 0) - (if t = i then payS xs f t else 0) := by
  have hne : f ≠ t := fun e => by subst e; omega
  unfold payD
  rw [at0_set, at0_set, List.length_set]
  by_cases e1 : t = i
  · subst e1
    rw [if_pos ⟨rfl, ht⟩, if_neg hne, if_pos rfl]; omega
  · rw [if_neg (fun e => e1 e.1), if_neg e1]
    by_cases e2 : f = i
    · subst e2
      rw [if_pos ⟨rfl, hf⟩, if_pos rfl]; omega
    · rw [if_neg (fun e => e2 e.1), if_neg e2]; omega
theorem payS_pos (h0 : at0 xs f < 0) (h1 : 0 < at0 xs t) : 1 ≤ payS xs f t ∧ payS xs f t ≤ at0 xs t ∧ payS xs f t ≤ -at0 xs f ∧ (payS xs f t = at0 xs t ∨ payS xs f t = -at0 xs f) := by
  unfold payS; split <;> omega
theorem payD_nzc (hf : f < xs.length) (ht : t < xs.length) (h0 : at0 xs f < 0) (h1 : 0 < at0 xs t) : nzc (payD xs f t) + 1 ≤ nzc xs ∧ 2 ≤ nzc xs := by
  have hne : f ≠ t := fun e => by subst e; omega
  have hp := payS_pos h0 h1
  have a1 := nzc_set xs f (at0 xs f + payS xs f t) hf
  have a2 := nzc_set (xs.set f (at0 xs f + payS xs f t)) t (at0 xs t - payS xs f t) (by simpa using ht)
  have e2 : at0 (xs.set f (at0 xs f + payS xs f t)) t = at0 xs t := by rw [at0_set, if_neg (fun e => hne e.1)]
  rw [e2, if_neg (show ¬ at0 xs t = 0 by omega)] at a2
  rw [if_neg (show ¬ at0 xs f = 0 by omega)] at a1
  have e3 : payD xs f t = (xs.set f (at0 xs f + payS xs f t)).set t (at0 xs t - payS xs f t) := rfl
  rw [← e3] at a2
  have b1 := nzc_set xs f 0 hf
  have b2 := nzc_set (xs.set f 0) t 0 (by simpa using ht)
  have e4 : at0 (xs.set f 0) t = at0 xs t := by rw [at0_set, if_neg (fun e => hne e.1)]
  rw [e4, if_neg (show ¬ at0 xs t = 0 by omega), if_pos rfl] at b2
  rw [if_neg (show ¬ at0 xs f = 0 by omega), if_pos rfl] at b1
  refine ⟨?_, by omega⟩
  rcases hp.2.2.2 with e | e
  · rw [if_pos (show at0 xs t - payS xs f t = 0 by omega)] at a2
    by_cases h : at0 xs f + payS xs f t = 0
    · rw [if_pos h] at a1; omega
    · rw [if_neg h] at a1; omega
  · rw [if_pos (show at0 xs f + payS xs f t = 0 by omega)] at a1
    by_cases h : at0 xs t - payS xs f t = 0
    · rw [if_pos h] at a2; omega
    · rw [if_neg h] at a2; omega
theorem payD_sm (hf : f < xs.length) (ht : t < xs.length) (h0 : at0 xs f < 0) (h1 : 0 < at0 xs t) : sm (payD xs f t) = sm xs := by
  have hne : f ≠ t := fun e => by subst e; omega
  have a1 := sm_set xs f (at0 xs f + payS xs f t) hf
  have a2 := sm_set (xs.set f (at0 xs f + payS xs f t)) t (at0 xs t - payS xs f t) (by simpa using ht)
  have e2 : at0 (xs.set f (at0 xs f + payS xs f t)) t = at0 xs t := by rw [at0_set, if_neg (fun e => hne e.1)]
  rw [e2] at a2
  have e3 : payD xs f t = (xs.set f (at0 xs f + payS xs f t)).set t (at0 xs t - payS xs f t) := rfl
  rw [← e3] at a2
  omega
end step
theorem nzc_zero {xs : List Int} : nzc xs = 0 ↔ ∀ x ∈ xs, x = 0 := by
  unfold nzc nzs
  rw [List.length_eq_zero_iff, List.filter_eq_nil_iff]
  simp
theorem Fast.len {xs : List Int} {p : PayL} (h : Fast xs p) : (nzc xs = 0 ∧ p = []) ∨ p.length < nzc xs := by
  induction h with
  | stop h => exact .inl ⟨nzc_zero.2 h, rfl⟩
  | step hf ht h0 h1 h ih =>
    right
    have := payD_nzc hf.1 ht.1 h0 h1
    rcases ih with ⟨h2, rfl⟩ | h2
    · simp; omega
    · simp; omega
/-- each payment is from one who owes to one who is owed, at most B, and in the end all is even -/
theorem Fast.facts {B : Int} {xs : List Int} {p : PayL} (h : Fast xs p) : (∀ x ∈ xs, -B ≤ x ∧ x ≤ B) →
    (∀ q ∈ p, ∃ f t : Nat, q = ((f : Int), (t : Int), q.2.2) ∧ f < xs.length ∧ t < xs.length ∧ at0 xs f < 0 ∧ 0 < at0 xs t ∧ 1 ≤ q.2.2 ∧ q.2.2 ≤ B) ∧ ∀ i : Nat, at0 xs i + flow p i = 0 := by
  induction h with
  | @stop xs h =>
    intro hB
    refine ⟨(fun q hq => by cases hq), fun i => ?_⟩
    simp only [flow]
    rcases Nat.lt_or_ge i xs.length with h1 | h1
    · rw [h _ (at0_mem h1)]; rfl
    · rw [at0_ge h1]; rfl
  | @step xs f t ps hf ht h0 h1 h ih =>
    intro hB
    have hp := payS_pos h0 h1
    have hat := payD_at hf.1 ht.1 h0 h1
    have hne : f ≠ t := fun e => by subst e; omega
    have hBf := hB _ (at0_mem hf.1)
    have hBt := hB _ (at0_mem ht.1)
    have hval : ∀ i, i < xs.length → (at0 (payD xs f t) i = at0 xs i) ∨ (i = f ∧ at0 (payD xs f t) i = at0 xs f + payS xs f t) ∨ (i = t ∧ at0 (payD xs f t) i = at0 xs t - payS xs f t) := fun i hi => by
      rw [hat i]
      by_cases e1 : f = i
      · subst e1; right; left; rw [if_pos rfl, if_neg (fun e => hne e.symm)]; exact ⟨rfl, by omega⟩
      · by_cases e2 : t = i
        · subst e2; right; right; rw [if_neg e1, if_pos rfl]; exact ⟨rfl, by omega⟩
        · left; rw [if_neg e1, if_neg e2]; omega
    have hB' : ∀ x ∈ payD xs f t, -B ≤ x ∧ x ≤ B := fun x hx => by
      obtain ⟨i, hi, rfl⟩ := mem_at0 hx
      rw [payD_length] at hi
      have h3 := hB _ (at0_mem hi)
      rcases hval i hi with h2 | ⟨_, h2⟩ | ⟨_, h2⟩ <;> omega
    obtain ⟨h2, h3⟩ := ih hB'
    refine ⟨fun q hq => ?_, fun i => ?_⟩
    · rcases List.mem_cons.1 hq with rfl | hq
      · exact ⟨f, t, rfl, hf.1, ht.1, h0, h1, hp.1, by show payS xs f t ≤ B; omega⟩
      · obtain ⟨f', t', h4, h5, h6, h7, h8, h9, h10⟩ := h2 q hq
        rw [payD_length] at h5 h6
        refine ⟨f', t', h4, h5, h6, ?_, ?_, h9, h10⟩
        · rcases hval f' h5 with e | ⟨e1, e⟩ | ⟨e1, e⟩
          · omega
          · subst e1; exact h0
          · omega
        · rcases hval t' h6 with e | ⟨e1, e⟩ | ⟨e1, e⟩
          · omega
          · omega
          · subst e1; exact h1
    · have h4 := h3 i
      rw [hat i] at h4
      simp only [flow]
      have c1 : ((f : Int) = (i : Int)) ↔ f = i := by omega
      have c2 : ((t : Int) = (i : Int)) ↔ t = i := by omega
      simp only [c1, c2]
      omega
/-- the indices of a row -/
def idxs (n : Nat) : List Int := (List.range n).map (fun i : Nat => (i : Int))
theorem idxs_nodup (n : Nat) : (idxs n).Nodup := by
  unfold idxs
  rw [List.nodup_iff_pairwise_ne, List.pairwise_map]
  exact List.Pairwise.imp (fun h e => h (by omega)) List.nodup_range
theorem mem_idxs {n : Nat} {i : Int} : i ∈ idxs n ↔ 0 ≤ i ∧ i < n := by
  unfold idxs
  rw [List.mem_map]
  constructor
  · rintro ⟨k, hk, rfl⟩; have := List.mem_range.1 hk; omega
  · intro h; exact ⟨i.toNat, List.mem_range.2 (by omega), by omega⟩
theorem map_at0 (xs : List Int) : (idxs xs.length).map (fun i => at0 xs i.toNat) = xs := by
  unfold idxs
  rw [List.map_map]
  apply List.ext_getElem (by simp)
  intro i h1 h2
  simp only [List.getElem_map, List.getElem_range, Function.comp_apply, Int.toNat_natCast]
  unfold at0
  rw [List.getD_eq_getElem?_getD, List.getElem?_eq_getElem h2]; rfl
/-- payments that settle a row are not fewer than its numbers less its parts -/
theorem settle_least {xs : List Int} {ps : PayL} (hp : ∀ p ∈ ps, (0 ≤ p.1 ∧ p.1 < xs.length) ∧ (0 ≤ p.2.1 ∧ p.2.1 < xs.length)) (h : ∀ i : Nat, i < xs.length → at0 xs i + flow ps i = 0) :
    nzc xs ≤ gmax (nzs xs) + ps.length := by
  obtain ⟨k, h1, h2⟩ := pays_bound (idxs_nodup xs.length) ps.length (fun i => at0 xs i.toNat) ps rfl (fun p hq => ⟨mem_idxs.2 (hp p hq).1, mem_idxs.2 (hp p hq).2⟩) (fun i hi => by
    have := mem_idxs.1 hi
    have h3 := h i.toNat (by omega)
    rwa [show ((i.toNat : Nat) : Int) = i by omega] at h3)
  rw [map_at0] at h1 h2
  have := gmax_le h1
  unfold nzc
  omega
/-! ### group by group -/
def GCond (xs : List Int) (r j : Nat) : Prop := Sub j r ∧ tab xs j = 1 ∧ tab xs (minus r j) = tab xs r - 1
def IsG (xs : List Int) (r g : Nat) : Prop := (1 ≤ g ∧ g < r ∧ GCond xs r g ∧ ∀ j, 1 ≤ j → j < g → ¬ GCond xs r j) ∨ (g = r ∧ ∀ j, 1 ≤ j → j < r → ¬ GCond xs r j)
theorem IsG.uniq {xs : List Int} {r g h : Nat} (h1 : IsG xs r g) (h2 : IsG xs r h) : g = h := by
  rcases h1 with ⟨a1, a2, a3, a4⟩ | ⟨a1, a2⟩ <;> rcases h2 with ⟨b1, b2, b3, b4⟩ | ⟨b1, b2⟩
  · rcases Nat.lt_trichotomy g h with e | e | e
    · exact absurd a3 (b4 g a1 e)
    · exact e
    · exact absurd b3 (a4 h b1 e)
  · exact absurd a3 (b2 g a1 a2)
  · exact absurd b3 (a2 h b1 b2)
  · omega
inductive Best (xs : List Int) : Nat → PayL → Prop where
  | stop : Best xs 0 []
  | step {r g : Nat} {p ps : PayL} (h0 : r ≠ 0) (hg : IsG xs r g) (hp : Fast (maskL xs g) p) (h : Best xs (minus r g) ps) : Best xs r (p ++ ps)
theorem Best.uniq {xs : List Int} {r : Nat} {p q : PayL} (h : Best xs r p) : Best xs r q → p = q := by
  induction h generalizing q with
  | stop =>
    intro k
    generalize h0 : (0 : Nat) = z at k
    cases k with
    | stop => rfl
    | step h1 => exact absurd h0.symm h1
  | step h0 hg hp h ih =>
    intro k
    cases k with
    | stop => exact absurd rfl h0
    | step h0' hg' hp' k =>
      obtain rfl := hg.uniq hg'
      rw [hp.uniq hp', ih k]
theorem at0_mask : ∀ (xs : List Int) (m i : Nat), at0 (maskL xs m) i = if m.testBit i then at0 xs i else 0
  | [], m, i => by simp [maskL, at0]
  | x :: xs, m, 0 => by
    have e : at0 (maskL (x :: xs) m) 0 = if m % 2 = 1 then x else 0 := rfl
    rw [e, Nat.testBit_zero]
    simp [at0]
  | x :: xs, m, i + 1 => by
    have e : at0 (maskL (x :: xs) m) (i + 1) = at0 (maskL xs (m / 2)) i := by simp [maskL, at0]
    rw [e, at0_mask xs (m / 2) i, Nat.testBit_succ]
    simp [at0]
theorem mask_add (xs : List Int) {a b : Nat} (h : Sub a b) (i : Nat) : at0 (maskL xs b) i = at0 (maskL xs a) i + at0 (maskL xs (minus b a)) i := by
  rw [at0_mask, at0_mask, at0_mask, testBit_minus]
  have h5 : (a &&& b).testBit i = a.testBit i := by rw [show a &&& b = a from h]
  rw [Nat.testBit_and] at h5
  cases hb : b.testBit i <;> cases ha : a.testBit i <;> simp_all
theorem minus_self (a : Nat) : minus a a = 0 := by apply Nat.eq_of_testBit_eq; intro i; rw [testBit_minus, Nat.zero_testBit]; cases a.testBit i <;> rfl
/-- what the group is -/
theorem IsG.what {xs : List Int} {r g : Nat} (hr : r < 2 ^ xs.length) (h0 : r ≠ 0) (hs : sm (vals xs r) = 0) (h : IsG xs r g) :
    Sub g r ∧ g ≠ 0 ∧ sm (vals xs g) = 0 ∧ tab xs g = 1 ∧ tab xs (minus r g) = tab xs r - 1 ∧ minus r g < r := by
  have hlt : ∀ {a : Nat}, Sub a r → a ≠ 0 → minus r a < r := fun {a} h1 h2 => by rw [minus_sub h1]; have := h1.le; omega
  have hpos := (tab_pos hr h0).2 hs
  rcases h with ⟨h1, h2, ⟨h3, h4, h5⟩, _⟩ | ⟨rfl, h2⟩
  · refine ⟨h3, by omega, ?_, h4, h5, hlt h3 (by omega)⟩
    unfold tab at h4
    split at h4
    · assumption
    · omega
  · have hself : Sub g g := Nat.and_self g
    have h1 : tab xs g = 1 := by
      rcases Int.lt_or_le (tab xs g) 2 with h3 | h3
      · omega
      · obtain ⟨a, ha1, ha2, ha3, ha4, ha5, ha6⟩ := tab_part hr hs h3
        have := ha1.le
        exact absurd ⟨ha1, ha5, ha6⟩ (h2 a (by omega) (by omega))
    refine ⟨hself, h0, hs, h1, by rw [minus_self, tab_zero, h1]; rfl, by rw [minus_self]; omega⟩
theorem Best.facts {B : Int} {xs : List Int} (hB : ∀ x ∈ xs, -B ≤ x ∧ x ≤ B) (hB0 : 0 ≤ B) {r : Nat} {p : PayL} (h : Best xs r p) : r < 2 ^ xs.length → sm (vals xs r) = 0 → (∀ x ∈ vals xs r, x ≠ 0) →
    (∀ q ∈ p, ∃ f t : Nat, q = ((f : Int), (t : Int), q.2.2) ∧ f < xs.length ∧ t < xs.length ∧ at0 xs f < 0 ∧ 0 < at0 xs t ∧ 1 ≤ q.2.2 ∧ q.2.2 ≤ B) ∧ (∀ i : Nat, at0 (maskL xs r) i + flow p i = 0) ∧ (p.length : Int) + tab xs r = (vals xs r).length := by
  induction h with
  | stop =>
    intro hr hs hn
    refine ⟨(fun q hq => by cases hq), fun i => ?_, by rw [tab_zero, vals_zero]; rfl⟩
    rw [at0_mask]; simp [flow]
  | @step r g p ps h0 hg hp h ih =>
    intro hr hs hn
    obtain ⟨h1, h2, h3, h4, h5, h6⟩ := hg.what hr h0 hs
    have hsp := vals_split xs h1
    have hgr : g < 2 ^ xs.length := Nat.lt_of_le_of_lt h1.le hr
    obtain ⟨i1, i2, i3⟩ := ih (by omega) (tab_rest h1 hs h3) (fun x hx => hn x (hsp.mem_iff.2 (List.mem_append_right _ hx)))
    have hBm : ∀ x ∈ maskL xs g, -B ≤ x ∧ x ≤ B := fun x hx => by
      obtain ⟨i, hi, rfl⟩ := mem_at0 hx
      rw [maskL_length] at hi
      rw [at0_mask]
      split
      · exact hB _ (at0_mem hi)
      · omega
    obtain ⟨f1, f2⟩ := hp.facts hBm
    rw [maskL_length] at f1
    have hnm : nzs (maskL xs g) = vals xs g := by
      unfold nzs
      rw [maskL_filter, List.filter_eq_self]
      intro x hx
      have := hn x (hsp.mem_iff.2 (List.mem_append_left _ hx))
      simpa using this
    have hlen := hp.len
    have hleast := settle_least (xs := maskL xs g) (ps := p) (fun q hq => by
      obtain ⟨f, t, e, hf, ht, _⟩ := f1 q hq
      rw [e, maskL_length]; simp only; omega) (fun i _ => f2 i)
    unfold nzc at hleast hlen
    rw [hnm] at hleast hlen
    have hgm : gmax (vals xs g) = 1 := by unfold tab at h4; rw [if_pos h3] at h4; omega
    have hne : (vals xs g).length ≠ 0 := fun e => h2 ((vals_nil_iff xs hgr).1 (List.eq_nil_of_length_eq_zero e))
    refine ⟨fun q hq => ?_, fun i => ?_, ?_⟩
    · rcases List.mem_append.1 hq with hq | hq
      · obtain ⟨f, t, e, hf, ht, hf0, ht0, hs1⟩ := f1 q hq
        rw [at0_mask] at hf0 ht0
        refine ⟨f, t, e, hf, ht, ?_, ?_, hs1⟩
        · split at hf0 <;> omega
        · split at ht0 <;> omega
      · exact i1 q hq
    · rw [flow_append, mask_add xs h1]
      have := f2 i; have := i2 i; omega
    · have := hsp.length_eq
      rw [List.length_append] at this
      rw [List.length_append]
      rcases hlen with ⟨e, _⟩ | e
      · omega
      · omega
end Go.Proofs.YtohhaladggoglaaDoor
