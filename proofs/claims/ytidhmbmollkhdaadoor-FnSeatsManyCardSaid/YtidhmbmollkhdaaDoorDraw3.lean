/- The drawn quarrels; QuarrelsValid. Own work; no program in sight. -/
import Derived.Test.YtidhmbmollkhdaaDoorDraw2
set_option linter.unusedVariables false
namespace Go.Proofs.YtidhmbmollkhdaaDoor
open Go Go.RowKit
theorem quar_ret {b : List Int} {p n : Int} (hb : By b) (h0 : 0 ≤ p) (h1 : p ≤ 1000) : Ret (spec_l20QuarrelsS b p n) (DM p 100) := by
  unfold spec_l20QuarrelsS
  refine Ret.bind (pick_ret hb h0 (by omega)) (fun x1 hx1 => ?_)
  obtain ⟨a1, g⟩ := x1
  obtain ⟨rfl, hg0, hg1⟩ := hx1
  have hg1 := hg1 (by omega)
  dsimp only at hg0 hg1 ⊢
  obtain ⟨g, rfl⟩ := Int.eq_ofNat_of_zero_le hg0
  refine Ret.bind (Q := fun z : List Int => z.length = g) (Ret.of (mkO_arr (n := g) (by omega)) (by simp [arr])) (fun z hz => ?_)
  refine Ret.bind (pick_ret hb (by omega) (by omega)) (fun x2 hx2 => ?_)
  obtain ⟨a2, c⟩ := x2
  obtain ⟨rfl, hc0, hc1⟩ := hx2
  have hc1 := hc1 (by omega)
  dsimp only at hc0 hc1 ⊢
  refine Ret.loopb (fun s => ∃ (l : List Int) (i : Nat) (p' : Int), s = (l, (i : Int), p') ∧ l.length = g ∧ i ≤ g ∧ p + 2 ≤ p' ∧ p' ≤ p + 2 + 6 * (i : Int)) (fun s => g - s.2.1.toNat)
    (fun r => r.1.length = g ∧ p + 2 ≤ r.2 ∧ r.2 ≤ p + 50) ⟨z, 0, _, rfl, hz, by omega, by omega, by omega⟩ ?_ (fun r hr => ?_)
  · rintro s ⟨l, i, p', rfl, hl, hi, hp1, hp2⟩
    dsimp only
    refine Ret.ite (fun h => ?_) (fun h => Ret.pure ⟨hl, hp1, by show p' ≤ p + 50; omega⟩)
    have hig : i < g := by have := of_decide_eq_true h; omega
    refine Ret.loopb (fun s => ∃ (l : List Int) (j : Nat) (q : Int), s = (l, (j : Int), q) ∧ l.length = g ∧ j ≤ i ∧ p' ≤ q ∧ q ≤ p' + (j : Int)) (fun s => i - s.2.1.toNat)
      (fun r => r.1.length = g ∧ p' ≤ r.2 ∧ r.2 ≤ p' + 6) ⟨l, 0, p', rfl, hl, by omega, by omega, by omega⟩ ?_ (fun r hr => ?_)
    · rintro s ⟨l, j, q, rfl, hl, hj, hq1, hq2⟩
      dsimp only
      refine Ret.ite (fun h => ?_) (fun h => Ret.pure ⟨hl, hq1, by show q ≤ p' + 6; omega⟩)
      have hji : j < i := by have := of_decide_eq_true h; omega
      have e1 : IntKind.wrap .i64 ((j : Int) + 1) = ((j + 1 : Nat) : Int) := wr_succ (n := 40) (by omega) (by omega)
      rw [e1]
      refine Ret.bind (pick_ret hb (by omega) (by omega)) (fun v hv => ?_)
      obtain ⟨a3, v⟩ := v
      obtain ⟨rfl, hv0, hv1⟩ := hv
      dsimp only
      refine Ret.ite (fun h => ?_) (fun h => Ret.pure ⟨⟨l, j + 1, q + 1, rfl, hl, by omega, by omega, by omega⟩, by simp; omega⟩)
      refine Ret.bind (geti_ret (b := l) (by omega) (by omega)) (fun u1 _ => ?_)
      rw [ishlO_nat (by omega), Option.bind_some]
      refine Ret.bind (geti_ret (b := l) (by omega) (by omega)) (fun u2 _ => ?_)
      refine Ret.bind (geti_ret (by omega) (by simp; omega)) (fun u3 _ => ?_)
      rw [ishlO_nat (by omega), Option.bind_some]
      refine Ret.bind (geti_ret (by omega) (by simp; omega)) (fun u4 _ => ?_)
      exact Ret.pure ⟨⟨_, j + 1, q + 1, rfl, by simp [hl], by omega, by omega, by omega⟩, by simp; omega⟩
    · obtain ⟨l', q⟩ := r
      obtain ⟨hl', hq1, hq2⟩ := hr
      dsimp only at hl' hq1 hq2 ⊢
      have e1 : IntKind.wrap .i64 ((i : Int) + 1) = ((i + 1 : Nat) : Int) := wr_succ (n := 40) (by omega) (by omega)
      rw [e1]
      exact Ret.pure ⟨⟨l', i + 1, q, rfl, hl', by omega, by omega, by omega⟩, by simp; omega⟩
  · obtain ⟨l, q⟩ := r
    obtain ⟨hl, hq1, hq2⟩ := hr
    dsimp only at hl hq1 hq2 ⊢
    refine Ret.bind (odd_ret hb (by omega) (by omega)) (fun o ho => ?_)
    refine Ret.ite (fun h => ?_) (fun h => Ret.pure ⟨⟨?_, ?_⟩, ⟨?_, ?_⟩, ?_⟩)
    · refine Ret.bind (pick_ret hb (by omega) (by omega)) (fun v hv => ?_)
      refine Ret.ite (fun h => ?_) (fun h => Ret.ite (fun h2 => ?_) (fun h2 => ?_))
      · rw [appO_ret (by simp; omega), Option.bind_some]
        refine Ret.pure ⟨⟨?_, ?_⟩, ⟨?_, ?_⟩, ?_⟩
        · show p ≤ v.1; omega
        · show v.1 ≤ p + 100; omega
        · show -1 ≤ (g : Int); omega
        · show (g : Int) ≤ 7; omega
        · simp; omega
      · refine Ret.pure ⟨⟨?_, ?_⟩, ⟨?_, ?_⟩, ?_⟩
        · show p ≤ v.1; omega
        · show v.1 ≤ p + 100; omega
        · show -1 ≤ (2 : Int); omega
        · show (2 : Int) ≤ 7; omega
        · simp
      · refine Ret.pure ⟨⟨?_, ?_⟩, ⟨?_, ?_⟩, ?_⟩
        · show p ≤ v.1; omega
        · show v.1 ≤ p + 100; omega
        · show -1 ≤ (2 : Int); omega
        · show (2 : Int) ≤ 7; omega
        · simp
    · show p ≤ o.1; omega
    · show o.1 ≤ p + 100; omega
    · show -1 ≤ (g : Int); omega
    · show (g : Int) ≤ 7; omega
    · show l.length ≤ 7; omega
theorem drawQuar (f : List Int → Option (Int × List Int)) (n : Int) (hf : ∀ x, f x = ((spec_l20OpenS x).bind fun x1 => ((spec_l20QuarrelsS x1.1 x1.2 n).bind fun x8 => (some (x8.2.1, x8.2.2))))) (x : List Int) (hx : ∀ n ∈ x, 0 ≤ n ∧ n ≤ 255) : Ret (f x) DG := by
  rw [hf]
  refine Ret.bind (open_spec x hx) (fun r hr => ?_)
  refine Ret.bind (quar_ret hr.1 (by omega) (by omega)) (fun v hv => ?_)
  exact Ret.pure hv.2
theorem quarValid_zeros (n : Nat) (h : n ≤ 6) : quarValid (n : Int) (arr n fun _ => 0) = true := by
  have : ∀ n ≤ 6, quarValid ((n : Nat) : Int) (arr n fun _ => 0) = true := by decide +kernel
  exact this n h
theorem quarValid_bump {g : Int} {q : List Int} (h : quarValid g q = true) {a : Int} (ha : q[0]? = some a) : quarValid g (q.set 0 (a + 1)) = false := by
  cases hq : quarValid g (q.set 0 (a + 1)) with
  | false => rfl
  | true =>
    exfalso
    obtain ⟨qs, rfl, hg, hl, hx, hk⟩ := quarValid_nat h
    obtain ⟨qs', he, hg', hl', hx', hk'⟩ := quarValid_nat hq
    cases qs with
    | nil => simp at ha
    | cons c t =>
      cases qs' with
      | nil => simp at he
      | cons c' t' =>
        simp only [List.map_cons, List.getElem?_cons_zero, Option.some.injEq] at ha
        subst ha
        simp only [List.map_cons, List.set_cons_zero, List.cons.injEq] at he
        have s1 := quar_self hk (i := 0) (by simp)
        have s2 := quar_self hk' (i := 0) (by simp)
        have n1 : nth (c :: t) 0 = c := rfl
        have n2 : nth (c' :: t') 0 = c' := rfl
        rw [n1, Nat.testBit_zero] at s1
        rw [n2, Nat.testBit_zero] at s2
        have := of_decide_eq_false s1
        have := of_decide_eq_false s2
        omega
theorem pl_FnQuarrelsValid (x : List Int) (hw : ∀ n ∈ x, InK .u8 n) : laws_FnQuarrelsValidS x = some true := by
  unfold laws_FnQuarrelsValidS
  by_cases hl : (x.length : Int) > 1048576
  · rw [if_pos (by simp; omega)]
  rw [if_neg (by simp; omega)]
  obtain ⟨⟨g, q⟩, hd, ⟨hg0, hg1⟩, hm⟩ := drawQuar spec_DrawQuarrelsValidS 2 (fun _ => rfl) x (u8_of hw)
  dsimp only at hg0 hg1 hm
  rw [hd, Option.bind_some, implQuarrelsValid_eq g q (by omega), Option.bind_some, specQuarrelsValid_eq g q (by omega), Option.bind_some]
  cases hk : quarValid g q with
  | false =>
    have he : quarValid 0 [] = true := by decide +kernel
    simp [alive_eq, implQuarrelsValid_eq 0 [] (by simp), he]
  | true =>
    obtain ⟨qs, hq, hg, hl6, hx, hk2⟩ := quarValid_nat hk
    rw [if_neg (by simp), if_neg (by simp)]
    have ha : appO ([] : List Int) q = some q := by rw [appO_ret (by simp; omega)]; rfl
    have hmk : mkO (0 : Int) g = some (arr qs.length fun _ => 0) := by rw [hg]; exact mkO_arr (by omega)
    have hz : impl_QuarrelsValidS g (arr qs.length fun _ => 0) = some true := by
      rw [implQuarrelsValid_eq _ _ (by simp [arr]; omega), hg, quarValid_zeros _ hl6]
    simp only [ha, Option.bind_some]
    by_cases hg2 : 0 < g
    · have hpos : 0 < qs.length := by omega
      obtain ⟨a, hga, hmem⟩ := geti_ret (b := q) (k := 0) (by omega) (by rw [hq]; simp; omega)
      have ha0 : q[0]? = some a := by have := geti_nat q 0; rw [← this]; exact hga
      have hab : 0 ≤ a ∧ a < 64 := by
        rw [hq] at hmem
        obtain ⟨c, hc, rfl⟩ := List.mem_map.1 hmem
        have := p6 hl6 (hx c hc)
        omega
      rw [if_pos (by simpa using hg2), hga]
      simp only [Option.bind_some]
      rw [wr ⟨by omega, by omega⟩, hmk]
      simp only [Option.bind_some, hz]
      have hb := quarValid_bump hk ha0
      rw [if_pos trivial, if_neg (by simp; omega), implQuarrelsValid_eq _ _ (by simp; omega), show Int.toNat 0 = 0 from rfl, hb]
      rfl
    · have hg00 : g = 0 := by omega
      rw [if_neg (by simpa using hg2)]
      simp only [Option.bind_some]
      rw [hmk]
      simp only [Option.bind_some, hz]
      rw [if_pos trivial, if_pos (by simp [hg00])]
      rfl
end Go.Proofs.YtidhmbmollkhdaaDoor
