/- The drawn menus and quarrels. Own work; no program in sight. -/
import Derived.Test.YtidhmbmollkhdaaDoorDraw
set_option linter.unusedVariables false
namespace Go.Proofs.YtidhmbmollkhdaaDoor
open Go Go.RowKit
def DM (p : Int) (k : Int) (r : Int × Int × List Int) : Prop := (p ≤ r.1 ∧ r.1 ≤ p + k) ∧ (-1 ≤ r.2.1 ∧ r.2.1 ≤ 7) ∧ r.2.2.length ≤ 7
theorem appO_ret {xs ys : List Int} (h : xs.length + ys.length ≤ 1000) : appO xs ys = some (xs ++ ys) := by
  unfold appO room
  rw [if_pos (by simp; omega)]
theorem menu_ret {b : List Int} {p n : Int} (hb : By b) (h0 : 0 ≤ p) (h1 : p ≤ 1000) : Ret (spec_l20MenuS b p n) (DM p 20) := by
  unfold spec_l20MenuS
  refine Ret.bind (pick_ret hb h0 (by omega)) (fun x1 hx1 => ?_)
  obtain ⟨a1, g⟩ := x1
  obtain ⟨rfl, hg0, hg1⟩ := hx1
  have hg1 := hg1 (by omega)
  dsimp only at hg0 hg1 ⊢
  obtain ⟨g, rfl⟩ := Int.eq_ofNat_of_zero_le hg0
  refine Ret.bind (pick_ret hb (by omega) (by omega)) (fun x2 hx2 => ?_)
  obtain ⟨a2, c⟩ := x2
  obtain ⟨rfl, hc0, hc1⟩ := hx2
  have hc1 := hc1 (by omega)
  dsimp only at hc0 hc1 ⊢
  have hsh := ishlO_nat (k := g) (by omega)
  have h2g := pow61 (k := g) (by omega)
  have h2p : 1 ≤ 2 ^ g := Nat.one_le_two_pow
  rw [hsh]
  simp only [Option.bind_some]
  refine Ret.loopb (fun s => ∃ (ms : List Nat) (k p' : Int), s = (castL ms, k, p') ∧ 0 ≤ k ∧ (ms.length : Int) + k ≤ 6 ∧ (∀ y ∈ ms, y < 2 ^ g) ∧ p + 2 ≤ p' ∧ p' ≤ p + 2 + (ms.length : Int)) (fun s => s.2.1.toNat)
    (fun r => ∃ (ms : List Nat) (p' : Int), r = (castL ms, p') ∧ ms.length ≤ 6 ∧ (∀ y ∈ ms, y < 2 ^ g) ∧ p + 2 ≤ p' ∧ p' ≤ p + 8) ⟨[], c, _, rfl, hc0, by simp; omega, by simp, by omega, by simp; omega⟩ ?_ (fun r hr => ?_)
  · rintro s ⟨ms, k, p', rfl, hk0, hk6, hms, hp1, hp2⟩
    dsimp only
    refine Ret.ite (fun h => ?_) (fun h => ?_)
    · have hk := of_decide_eq_true h
      refine Ret.bind (pick_ret hb (by omega) (by omega)) (fun v hv => ?_)
      obtain ⟨a3, v⟩ := v
      obtain ⟨rfl, hv0, hv1⟩ := hv
      have hv1 := hv1 (by omega)
      dsimp only at hv0 hv1 ⊢
      obtain ⟨v, rfl⟩ := Int.eq_ofNat_of_zero_le hv0
      rw [appO_cast ms v (by omega), Option.bind_some, wr ⟨by omega, by omega⟩]
      refine Ret.pure ⟨⟨ms ++ [v], k - 1, p' + 1, rfl, by omega, by simp; omega, ?_, by omega, by simp; omega⟩, by simp; omega⟩
      intro y hy
      rcases List.mem_append.1 hy with hy | hy
      · exact hms y hy
      · simp only [List.mem_singleton] at hy; omega
    · exact Ret.pure ⟨ms, p', rfl, by omega, hms, hp1, by omega⟩
  · obtain ⟨ms, p', rfl, hl, hms, hp1, hp2⟩ := hr
    dsimp only
    have hcl : (castL ms).length = ms.length := castL_length ms
    refine Ret.bind (Q := fun r => (p' ≤ r.1 ∧ r.1 ≤ p' + 1) ∧ (r.2 = true → 0 < ms.length)) ?_ (fun r hr => ?_)
    · refine Ret.ite (fun h => ?_) (fun h => Ret.pure ⟨⟨by omega, by omega⟩, fun h => by cases h⟩)
      have hpos : 0 < ms.length := by have := of_decide_eq_true h; omega
      refine Ret.bind (pick_ret hb (by omega) (by omega)) (fun v hv => Ret.pure ⟨⟨?_, ?_⟩, fun _ => hpos⟩)
      · show p' ≤ v.1; omega
      · show v.1 ≤ p' + 1; omega
    · obtain ⟨q, bl⟩ := r
      obtain ⟨⟨hq0, hq1⟩, hbl⟩ := hr
      dsimp only at hq0 hq1 hbl ⊢
      refine Ret.bind (Q := fun j : List Int => j.length ≤ 6) ?_ (fun j hj => ?_)
      · refine Ret.ite (fun h => ?_) (fun h => Ret.pure (by omega))
        have hpos := hbl h
        rw [hcl, ishlO_nat (by omega), Option.bind_some]
        have hlt : 2 ^ ms.length ≤ 64 := by
          have : 2 ^ ms.length ≤ 2 ^ 6 := Nat.pow_le_pow_right (by omega) hl
          omega
        have hl1 : 1 ≤ 2 ^ ms.length := Nat.one_le_two_pow
        have e1 : IntKind.wrap .i64 (((2 ^ ms.length : Nat) : Int) - 1) = ((2 ^ ms.length - 1 : Nat) : Int) := by rw [wr ⟨by omega, by omega⟩]; omega
        have hfl : fed ms (2 ^ ms.length - 1) < 2 ^ g := fedTo_lt hms _
        rw [e1]
        have hfe := l6Fed_eq (n := g) (ms := ms) (d := 2 ^ ms.length - 1) (by omega) hl hms (by omega)
        have hfe : spec_l6FedS (castL ms) ((2 ^ ms.length - 1 : Nat) : Int) = _ := hfe
        rw [hfe, Option.bind_some]
        have e2 : IntKind.wrap .i64 ((ms.length : Int) - 1) = ((ms.length - 1 : Nat) : Int) := by rw [wr ⟨by omega, by omega⟩]; omega
        have e3 : IntKind.wrap .i64 (((2 ^ g : Nat) : Int) - 1) = ((2 ^ g - 1 : Nat) : Int) := by rw [wr ⟨by omega, by omega⟩]; omega
        have e4 : IntKind.wrap .i64 (((2 ^ g - 1 : Nat) : Int) - ((fed ms (2 ^ ms.length - 1) : Nat) : Int)) = ((2 ^ g - 1 - fed ms (2 ^ ms.length - 1) : Nat) : Int) := by rw [wr ⟨by omega, by omega⟩]; omega
        rw [e2, geti_cast (by omega), Option.bind_some, e3, e4]
        have hm := hms (nth ms (ms.length - 1)) (nth_mem (by omega))
        rw [l1Join_eq (by omega) (by omega)]
        simp only [Option.bind_some]
        exact Ret.pure (by simp [hcl]; omega)
      · refine Ret.bind (odd_ret hb (by omega) (by omega)) (fun o ho => ?_)
        refine Ret.ite (fun h => ?_) (fun h => Ret.pure ⟨⟨?_, ?_⟩, ⟨?_, ?_⟩, ?_⟩)
        · refine Ret.bind (pick_ret hb (by omega) (by omega)) (fun v hv => ?_)
          refine Ret.ite (fun h => ?_) (fun h => Ret.ite (fun h2 => ?_) (fun h2 => ?_))
          · refine Ret.bind (pick_ret hb (by omega) (by omega)) (fun u hu => ?_)
            have hu2 := hu.2.2 (by omega)
            refine Ret.bind (geti_ret (b := [-1, 7]) hu.2.1 (by simpa using hu2)) (fun t ht => ?_)
            have ht : t = -1 ∨ t = 7 := by simpa using ht
            refine Ret.pure ⟨⟨?_, ?_⟩, ⟨?_, ?_⟩, ?_⟩
            · show p ≤ u.1; omega
            · show u.1 ≤ p + 20; omega
            · show -1 ≤ t; omega
            · show t ≤ 7; omega
            · show j.length ≤ 7; omega
          · rw [appO_ret (by simp; omega), Option.bind_some]
            refine Ret.pure ⟨⟨?_, ?_⟩, ⟨?_, ?_⟩, ?_⟩
            · show p ≤ v.1; omega
            · show v.1 ≤ p + 20; omega
            · show -1 ≤ (g : Int); omega
            · show (g : Int) ≤ 7; omega
            · simp; omega
          · have hmk : mkO (0 : Int) 7 = some (List.replicate 7 0) := rfl
            rw [hmk, Option.bind_some]
            refine Ret.pure ⟨⟨?_, ?_⟩, ⟨?_, ?_⟩, ?_⟩
            · show p ≤ v.1; omega
            · show v.1 ≤ p + 20; omega
            · show -1 ≤ (g : Int); omega
            · show (g : Int) ≤ 7; omega
            · simp
        · show p ≤ o.1; omega
        · show o.1 ≤ p + 20; omega
        · show -1 ≤ (g : Int); omega
        · show (g : Int) ≤ 7; omega
        · show j.length ≤ 7; omega
def DG (r : Int × List Int) : Prop := (-1 ≤ r.1 ∧ r.1 ≤ 7) ∧ r.2.length ≤ 7
theorem drawMenuValid (x : List Int) (hx : ∀ n ∈ x, 0 ≤ n ∧ n ≤ 255) : Ret (spec_DrawMenuValidS x) DG := by
  unfold spec_DrawMenuValidS
  refine Ret.bind (open_spec x hx) (fun r hr => ?_)
  refine Ret.bind (menu_ret hr.1 (by omega) (by omega)) (fun v hv => ?_)
  exact Ret.pure hv.2
theorem pl_FnMenuValid (x : List Int) (hw : ∀ n ∈ x, InK .u8 n) : laws_FnMenuValidS x = some true := by
  unfold laws_FnMenuValidS
  by_cases hl : (x.length : Int) > 1048576
  · rw [if_pos (by simp; omega)]
  rw [if_neg (by simp; omega)]
  obtain ⟨⟨g, m⟩, hd, ⟨hg0, hg1⟩, hm⟩ := drawMenuValid x (u8_of hw)
  dsimp only at hg0 hg1 hm
  rw [hd, Option.bind_some, implMenuValid_eq g m (by omega), Option.bind_some, specMenuValid_eq g m (by omega), Option.bind_some]
  by_cases hk : MenuOk g m
  · have hl2 := hk.2.2.1
    have hgp := hk.1
    obtain ⟨e1, e2, e3⟩ := ishl_one hk.1 (by omega : g ≤ 60)
    have hsh : ishlO .i64 1 g = some (2 ^ g.toNat) := by unfold ishlO; rw [if_neg (by simp; omega), e1]
    have hno : ¬ MenuOk g (m ++ [2 ^ g.toNat]) := by
      rintro ⟨_, _, _, h⟩
      have := h (2 ^ g.toNat) (by simp)
      omega
    rw [decide_eq_true hk, if_neg (by simp), if_neg (by simp)]
    have ha : appO ([] : List Int) m = some m := by rw [appO_ret (by simp; omega)]; rfl
    simp only [ha, Option.bind_some, hsh]
    rw [appO_ret (xs := m) (ys := [0]) (by simp only [List.length_cons, List.length_nil]; omega), Option.bind_some, appO_ret (xs := m) (ys := [2 ^ g.toNat]) (by simp only [List.length_cons, List.length_nil]; omega), Option.bind_some, implMenuValid_eq g (m ++ [0]) (by simp; omega), implMenuValid_eq g (m ++ [2 ^ g.toNat]) (by simp; omega), decide_eq_false hno]
    by_cases h6 : m.length = 6
    · simp [h6]
    · have hyes : MenuOk g (m ++ [0]) := by
        refine ⟨hk.1, hk.2.1, by simp; omega, fun y hy => ?_⟩
        rcases List.mem_append.1 hy with hy | hy
        · exact hk.2.2.2 y hy
        · simp only [List.mem_singleton] at hy; subst hy; omega
      rw [decide_eq_true hyes]
      simp
  · rw [decide_eq_false hk]
    simp [alive_eq]
end Go.Proofs.YtidhmbmollkhdaaDoor
