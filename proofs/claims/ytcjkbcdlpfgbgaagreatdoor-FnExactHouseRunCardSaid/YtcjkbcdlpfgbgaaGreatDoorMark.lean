/- Houses that are marked, and held against their marks. Own work; no program in sight. -/
import Derived.Test.YtcjkbcdlpfgbgaaGreatDoorHouseL
set_option linter.unusedVariables false
namespace Go.Proofs.YtcjkbcdlpfgbgaaGreatDoor
open Go Go.RowKit
def mapAcc {α : Type} (g : α → Nat → α × Nat) : List α → Nat → List α × Nat
  | [], k => ([], k)
  | x :: xs, k => ((g x k).1 :: (mapAcc g xs (g x k).2).1, (mapAcc g xs (g x k).2).2)
def accAt {α : Type} (g : α → Nat → α × Nat) : List α → Nat → Nat → Nat
  | _, k, 0 => k
  | [], k, _ + 1 => k
  | x :: xs, k, i + 1 => accAt g xs (g x k).2 i
theorem mapAcc_len {α : Type} (g : α → Nat → α × Nat) : ∀ (xs : List α) (k : Nat), (mapAcc g xs k).1.length = xs.length
  | [], k => rfl
  | x :: xs, k => by simp [mapAcc, mapAcc_len g xs]
theorem accAt_succ {α : Type} (g : α → Nat → α × Nat) : ∀ (xs : List α) (k i : Nat) (h : i < xs.length), accAt g xs k (i + 1) = (g xs[i] (accAt g xs k i)).2
  | x :: xs, k, 0, h => by simp [accAt]
  | x :: xs, k, i + 1, h => by
    have := accAt_succ g xs (g x k).2 i (by simpa using h)
    simpa [accAt] using this
theorem accAt_len {α : Type} (g : α → Nat → α × Nat) : ∀ (xs : List α) (k : Nat), accAt g xs k xs.length = (mapAcc g xs k).2
  | [], k => rfl
  | x :: xs, k => by simp [accAt, mapAcc, accAt_len g xs]
theorem mapAcc_get {α : Type} (g : α → Nat → α × Nat) : ∀ (xs : List α) (k i : Nat) (h : i < xs.length), (mapAcc g xs k).1[i]? = some (g xs[i] (accAt g xs k i)).1
  | x :: xs, k, 0, h => by simp [mapAcc, accAt]
  | x :: xs, k, i + 1, h => by
    have := mapAcc_get g xs (g x k).2 i (by simpa using h)
    simpa [mapAcc, accAt] using this
theorem accAt_le {α : Type} {g : α → Nat → α × Nat} {c : Nat} : ∀ {xs : List α} {k i : Nat}, (∀ x ∈ xs, ∀ k, (g x k).2 ≤ k + c) → accAt g xs k i ≤ k + c * i
  | _, k, 0, _ => by simp [accAt]
  | [], k, i + 1, _ => by simp [accAt]
  | x :: xs, k, i + 1, h => by
    have h1 := h x (by simp) k
    have h2 := accAt_le (xs := xs) (k := (g x k).2) (i := i) (fun y hy => h y (by simp [hy]))
    simp only [accAt]
    rw [Nat.mul_add]; omega
theorem mapAcc_le {α : Type} {g : α → Nat → α × Nat} {c : Nat} {xs : List α} {k : Nat} (h : ∀ x ∈ xs, ∀ k, (g x k).2 ≤ k + c) : (mapAcc g xs k).2 ≤ k + c * xs.length := by
  rw [← accAt_len]; exact accAt_le h
def mixAcc {α : Type} (g : α → Nat → α × Nat) (xs : List α) (k i : Nat) : List α := (mapAcc g xs k).1.take i ++ xs.drop i
theorem mixAcc_len {α : Type} (g : α → Nat → α × Nat) (xs : List α) (k i : Nat) : (mixAcc g xs k i).length = xs.length := by
  unfold mixAcc
  rw [List.length_append, List.length_take, List.length_drop, mapAcc_len]; omega
theorem mixAcc_get {α : Type} (g : α → Nat → α × Nat) (xs : List α) (k i : Nat) (h : i < xs.length) : (mixAcc g xs k i)[i]? = some xs[i] := by
  unfold mixAcc
  rw [List.getElem?_append_right (by simp [mapAcc_len]; omega), List.length_take, mapAcc_len, List.getElem?_drop]
  rw [show i + (i - min i xs.length) = i by omega, List.getElem?_eq_getElem h]
theorem mixAcc_set {α : Type} (g : α → Nat → α × Nat) (xs : List α) (k i : Nat) (h : i < xs.length) : (mixAcc g xs k i).set i (g xs[i] (accAt g xs k i)).1 = mixAcc g xs k (i + 1) := by
  have hl : ((mapAcc g xs k).1.take i).length = i := by simp [mapAcc_len]; omega
  have hi : i < (mapAcc g xs k).1.length := by rw [mapAcc_len]; exact h
  have hg := mapAcc_get g xs k i h
  rw [List.getElem?_eq_getElem hi] at hg
  unfold mixAcc
  rw [List.set_append_right _ _ (by omega), hl, Nat.sub_self, List.drop_eq_getElem_cons h, List.set_cons_zero, List.take_succ_eq_append_getElem hi, Option.some.inj hg, List.append_assoc]
  rfl
theorem markLoop {α : Type} (g : α → Nat → α × Nat) (c : Nat) (xs : List α) (k0 : Nat) (hc : ∀ x ∈ xs, ∀ k, (g x k).2 ≤ k + c) {step : Int × Int × List α → Option ((Int × Int × List α) ⊕ (Int × List α))}
    (hs : ∀ (i : Nat) (hi : i < xs.length) (k : Nat) (ys : List α), k ≤ k0 + c * xs.length → ys.length = xs.length → geti ys (i : Int) = some xs[i] → step ((k : Int), (i : Int), ys) = some (.inl (((g xs[i] k).2 : Nat), ((i + 1 : Nat) : Int), ys.set i (g xs[i] k).1)))
    (he : ∀ (k : Int) (ys : List α), ys.length = xs.length → step (k, (xs.length : Int), ys) = some (.inr (k, ys))) :
    loop (σ := Int × Int × List α) (ρ := Int × List α) step ((k0 : Int), 0, xs) = some ((((mapAcc g xs k0).2 : Nat) : Int), (mapAcc g xs k0).1) := by
  rw [loopDet (s := ((k0 : Int), (0 : Int), xs)) (fun i => (((accAt g xs k0 i : Nat) : Int), (i : Int), mixAcc g xs k0 i)) xs.length _ (by simp [accAt, mixAcc])]
  · intro i hi
    have h1 := accAt_le (xs := xs) (k := k0) (i := i) hc
    have h2 : c * i ≤ c * xs.length := Nat.mul_le_mul_left _ (by omega)
    rw [hs i hi _ _ (by omega) (mixAcc_len _ _ _ _) (by rw [geti_nat]; exact mixAcc_get g xs k0 i hi), accAt_succ g xs k0 i hi, mixAcc_set g xs k0 i hi]
  · rw [he _ _ (mixAcc_len _ _ _ _), accAt_len]
    congr 3
    unfold mixAcc
    rw [List.drop_length, List.append_nil, List.take_of_length_le (by rw [mapAcc_len]; omega)]
theorem heldLoop {α : Type} (g : α → Nat → α × Nat) (c : Nat) (xs : List α) (k0 : Nat) (hc : ∀ x ∈ xs, ∀ k, (g x k).2 ≤ k + c) {step : Int × Int → Option ((Int × Int) ⊕ (Int ⊕ Int))}
    (hs : ∀ (i : Nat) (hi : i < xs.length) (k : Nat), k ≤ k0 + c * xs.length → geti (mapAcc g xs k0).1 (i : Int) = some (g xs[i] k).1 → step ((k : Int), (i : Int)) = some (.inl (((g xs[i] k).2 : Nat), ((i + 1 : Nat) : Int))))
    (he : ∀ k : Int, step (k, (xs.length : Int)) = some (.inr (.inl k))) :
    loop (σ := Int × Int) (ρ := Int ⊕ Int) step ((k0 : Int), 0) = some (.inl (((mapAcc g xs k0).2 : Nat) : Int)) := by
  rw [loopDet (s := ((k0 : Int), (0 : Int))) (fun i => (((accAt g xs k0 i : Nat) : Int), (i : Int))) xs.length _ (by simp [accAt])]
  · intro i hi
    have h1 := accAt_le (xs := xs) (k := k0) (i := i) hc
    have h2 : c * i ≤ c * xs.length := Nat.mul_le_mul_left _ (by omega)
    rw [hs i hi _ (by omega) (by rw [geti_nat]; exact mapAcc_get g xs k0 i hi), accAt_succ g xs k0 i hi]
  · rw [he, accAt_len]
/-! ### the marks -/
def mkI (x : Int) (k : Nat) : Int × Nat := ((k : Int), k + 1)
def mkP (x : Int × Int) (k : Nat) : (Int × Int) × Nat := (((k : Int), ((k + 1 : Nat) : Int)), k + 2)
def mkIt (x : HItem) (k : Nat) : HItem × Nat := (((k : Int), (mapAcc mkP x.2.1 (k + 1)).1, (((mapAcc mkP x.2.1 (k + 1)).2 : Nat) : Int)), (mapAcc mkP x.2.1 (k + 1)).2 + 1)
def mkTb (x : HTab) (k : Nat) : HTab × Nat := (((k : Int), (mapAcc mkP x.2.1 (k + 1)).1, (mapAcc mkI x.2.2 (mapAcc mkP x.2.1 (k + 1)).2).1), (mapAcc mkI x.2.2 (mapAcc mkP x.2.1 (k + 1)).2).2)
theorem mkI_le (x : Int) (k : Nat) : (mkI x k).2 ≤ k + 1 := Nat.le_refl _
theorem mkP_le (x : Int × Int) (k : Nat) : (mkP x k).2 ≤ k + 2 := Nat.le_refl _
theorem mkPs_le (ps : List (Int × Int)) (k : Nat) : (mapAcc mkP ps k).2 ≤ k + 2 * ps.length := mapAcc_le fun x _ k => mkP_le x k
theorem mkIs_le (ps : List Int) (k : Nat) : (mapAcc mkI ps k).2 ≤ k + 1 * ps.length := mapAcc_le fun x _ k => mkI_le x k
theorem mkIt_le {x : HItem} (h : x.2.1.length ≤ 1048576) (k : Nat) : (mkIt x k).2 ≤ k + 4194304 := by
  have := mkPs_le x.2.1 (k + 1)
  show _ + 1 ≤ _
  omega
theorem mkTb_le {x : HTab} (h : x.2.1.length ≤ 1048576) (h' : x.2.2.length ≤ 1048576) (k : Nat) : (mkTb x k).2 ≤ k + 4194304 := by
  have h1 := mkPs_le x.2.1 (k + 1)
  have h2 := mkIs_le x.2.2 (mapAcc mkP x.2.1 (k + 1)).2
  show (mapAcc mkI x.2.2 (mapAcc mkP x.2.1 (k + 1)).2).2 ≤ _
  omega
theorem mkIts_le {xs : List HItem} (h : ItemsL xs) (k : Nat) : (mapAcc mkIt xs k).2 ≤ k + 4194304 * xs.length := mapAcc_le fun x hx k => mkIt_le (h.2 x hx) k
theorem mkTbs_le {xs : List HTab} (h : TabsL xs) (k : Nat) : (mapAcc mkTb xs k).2 ≤ k + 4194304 * xs.length := mapAcc_le fun x hx k => mkTb_le (h.2 x hx).1 (h.2 x hx).2 k
theorem geti_set' {α : Type} {ys : List α} {i : Nat} {x y : α} (h : geti ys (i : Int) = some x) : geti (ys.set i y) (i : Int) = some y := by
  rw [geti_nat] at h ⊢
  have hl := (List.getElem?_eq_some_iff.1 h).1
  rw [List.getElem?_set_self hl]
theorem set_set' {α : Type} (ys : List α) (i : Nat) (x y : α) : (ys.set i x).set i y = ys.set i y := List.set_set _
theorem markInts_eq (ps : List Int) (k : Nat) (h : ps.length ≤ 1048576) (hk : k ≤ 1152921504606846976) : laws_markIntSS ps (k : Int) = some ((mapAcc mkI ps k).1, (((mapAcc mkI ps k).2 : Nat) : Int)) := by
  unfold laws_markIntSS
  rw [markLoop mkI 1 ps k (fun x _ k => mkI_le x k)]
  · rfl
  · intro i hi k' ys hk' hl hg
    (try dsimp only)
    rw [if_pos (decide_eq_true (by omega)), hg, Option.bind_some, wr (x := (k' : Int) + 1) ⟨by omega, by omega⟩, wr_succ (n := ps.length) (by omega) hi]
    rfl
  · intro k' ys hl
    (try dsimp only)
    rw [if_neg (by simp [hl])]
theorem markParts_eq (ps : List (Int × Int)) (k : Nat) (h : ps.length ≤ 1048576) (hk : k ≤ 1152921504606846976) : laws_markPartSS ps (k : Int) = some ((mapAcc mkP ps k).1, (((mapAcc mkP ps k).2 : Nat) : Int)) := by
  unfold laws_markPartSS
  rw [markLoop mkP 2 ps k (fun x _ k => mkP_le x k)]
  · rfl
  · intro i hi k' ys hk' hl hg
    (try dsimp only)
    rw [if_pos (decide_eq_true (by omega)), hg, Option.bind_some, show Int.toNat (i : Int) = i from rfl, geti_set' hg, Option.bind_some, set_set', wr (x := (k' : Int) + 1) ⟨by omega, by omega⟩, wr (x := (k' : Int) + 1 + 1) ⟨by omega, by omega⟩, wr_succ (n := ps.length) (by omega) hi]
    rfl
  · intro k' ys hl
    (try dsimp only)
    rw [if_neg (by simp [hl])]
theorem markOrders_eq (ps : List (Int × Int)) (k : Nat) (h : ps.length ≤ 1048576) (hk : k ≤ 1152921504606846976) : laws_markOrderSS ps (k : Int) = some ((mapAcc mkP ps k).1, (((mapAcc mkP ps k).2 : Nat) : Int)) := by
  unfold laws_markOrderSS
  rw [markLoop mkP 2 ps k (fun x _ k => mkP_le x k)]
  · rfl
  · intro i hi k' ys hk' hl hg
    (try dsimp only)
    rw [if_pos (decide_eq_true (by omega)), hg, Option.bind_some, show Int.toNat (i : Int) = i from rfl, geti_set' hg, Option.bind_some, set_set', wr (x := (k' : Int) + 1) ⟨by omega, by omega⟩, wr (x := (k' : Int) + 1 + 1) ⟨by omega, by omega⟩, wr_succ (n := ps.length) (by omega) hi]
    rfl
  · intro k' ys hl
    (try dsimp only)
    rw [if_neg (by simp [hl])]
theorem markItems_eq {xs : List HItem} (h : ItemsL xs) (k : Nat) (hk : k ≤ 4611686018427387) : laws_markItemSS xs (k : Int) = some ((mapAcc mkIt xs k).1, (((mapAcc mkIt xs k).2 : Nat) : Int)) := by
  have hlen := h.1
  unfold laws_markItemSS
  rw [markLoop mkIt 4194304 xs k (fun x hx k => mkIt_le (h.2 x hx) k)]
  · rfl
  · intro i hi k' ys hk' hl hg
    have hx := h.2 _ (List.getElem_mem hi)
    have hp := mkPs_le xs[i].2.1 (k' + 1)
    (try dsimp only)
    rw [if_pos (decide_eq_true (by omega)), hg, Option.bind_some, show Int.toNat (i : Int) = i from rfl, geti_set' hg, Option.bind_some]
    (try dsimp only)
    rw [wr (x := (k' : Int) + 1) ⟨by omega, by omega⟩, show (k' : Int) + 1 = ((k' + 1 : Nat) : Int) by omega, markParts_eq _ _ hx (by omega), Option.bind_some, set_set', geti_set' hg, Option.bind_some, set_set', wr (x := (((mapAcc mkP xs[i].2.1 (k' + 1)).2 : Nat) : Int) + 1) ⟨by omega, by omega⟩, wr_succ (n := xs.length) (by omega) hi]
    rfl
  · intro k' ys hl
    (try dsimp only)
    rw [if_neg (by simp [hl])]
theorem markTables_eq {xs : List HTab} (h : TabsL xs) (k : Nat) (hk : k ≤ 46116860184273879) : laws_markTableSS xs (k : Int) = some ((mapAcc mkTb xs k).1, (((mapAcc mkTb xs k).2 : Nat) : Int)) := by
  have hlen := h.1
  unfold laws_markTableSS
  rw [markLoop mkTb 4194304 xs k (fun x hx k => mkTb_le (h.2 x hx).1 (h.2 x hx).2 k)]
  · rfl
  · intro i hi k' ys hk' hl hg
    have hx := h.2 _ (List.getElem_mem hi)
    have hp := mkPs_le xs[i].2.1 (k' + 1)
    (try dsimp only)
    rw [if_pos (decide_eq_true (by omega)), hg, Option.bind_some, show Int.toNat (i : Int) = i from rfl, geti_set' hg, Option.bind_some]
    (try dsimp only)
    rw [wr (x := (k' : Int) + 1) ⟨by omega, by omega⟩, show (k' : Int) + 1 = ((k' + 1 : Nat) : Int) by omega, markOrders_eq _ _ hx.1 (by omega), Option.bind_some, set_set', geti_set' hg, Option.bind_some]
    (try dsimp only)
    rw [markInts_eq _ _ hx.2 (by omega), Option.bind_some, set_set', wr_succ (n := xs.length) (by omega) hi]
    rfl
  · intro k' ys hl
    (try dsimp only)
    rw [if_neg (by simp [hl])]
def mkHouse (it : List HItem) (pr st : List Int) (tb : List HTab) (k : Nat) : (List HItem × List Int × List Int × List HTab) × Nat :=
  (((mapAcc mkIt it k).1, (mapAcc mkI pr (mapAcc mkIt it k).2).1, (mapAcc mkI st (mapAcc mkI pr (mapAcc mkIt it k).2).2).1, (mapAcc mkTb tb (mapAcc mkI st (mapAcc mkI pr (mapAcc mkIt it k).2).2).2).1), (mapAcc mkTb tb (mapAcc mkI st (mapAcc mkI pr (mapAcc mkIt it k).2).2).2).2)
theorem markHouse_eq {it : List HItem} {pr st : List Int} (cash : Int) {tb : List HTab} (h : HouseL it pr st tb) : laws_markHouseS it pr st cash tb 1 = some ((mkHouse it pr st tb 1).1.1, (mkHouse it pr st tb 1).1.2.1, (mkHouse it pr st tb 1).1.2.2.1, (mkHouse it pr st tb 1).1.2.2.2, (((mkHouse it pr st tb 1).2 : Nat) : Int)) := by
  obtain ⟨hi, hp, hs, ht⟩ := h
  have b1 := mkIts_le hi 1
  have b2 := mkIs_le pr (mapAcc mkIt it 1).2
  have b3 := mkIs_le st (mapAcc mkI pr (mapAcc mkIt it 1).2).2
  have hil := hi.1
  unfold laws_markHouseS
  rw [show (1 : Int) = ((1 : Nat) : Int) from rfl, markItems_eq hi 1 (by omega), Option.bind_some, markInts_eq pr _ hp (by omega), Option.bind_some, markInts_eq st _ hs (by omega), Option.bind_some, markTables_eq ht _ (by omega), Option.bind_some]
  rfl
end Go.Proofs.YtcjkbcdlpfgbgaaGreatDoor
