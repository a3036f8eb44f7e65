/- The marks stand where they were put; the law of one deed. Own work; no program in sight. -/
import Derived.Test.YtcjkbcdlpfgbgaaGreatDoorDo3
set_option linter.unusedVariables false
namespace Go.Proofs.YtcjkbcdlpfgbgaaGreatDoor
open Go Go.RowKit
theorem heldInts_eq (ps : List Int) (k : Nat) (h : ps.length ≤ 1048576) (hk : k ≤ 1152921504606846976) : laws_heldIntSS (mapAcc mkI ps k).1 (k : Int) = some (((mapAcc mkI ps k).2 : Nat) : Int) := by
  unfold laws_heldIntSS
  rw [heldLoop mkI 1 ps k (fun x _ k => mkI_le x k)]
  · rfl
  · intro i hi k' hk' hg
    replace hg : geti (mapAcc mkI ps k).1 (i : Int) = some (k' : Int) := hg
    show (if decide ((i : Int) < (List.length _ : Int)) = true then _ else _) = _
    rw [mapAcc_len, if_pos (lt_dec hi), hg, Option.bind_some]
    rw [if_neg (by simp), wr (x := (k' : Int) + 1) ⟨by omega, by omega⟩, wr_succ (n := ps.length) (by omega) hi]
    rfl
  · intro k'
    show (if decide ((List.length _ : Int) < (List.length _ : Int)) = true then _ else _) = _
    rw [mapAcc_len, if_neg (by simp)]
theorem heldParts_eq (ps : List (Int × Int)) (k : Nat) (h : ps.length ≤ 1048576) (hk : k ≤ 1152921504606846976) : laws_heldPartSS (mapAcc mkP ps k).1 (k : Int) = some (((mapAcc mkP ps k).2 : Nat) : Int) := by
  unfold laws_heldPartSS
  rw [heldLoop mkP 2 ps k (fun x _ k => mkP_le x k)]
  · rfl
  · intro i hi k' hk' hg
    replace hg : geti (mapAcc mkP ps k).1 (i : Int) = some ((k' : Int), ((k' + 1 : Nat) : Int)) := hg
    show (if decide ((i : Int) < (List.length _ : Int)) = true then _ else _) = _
    rw [mapAcc_len, if_pos (lt_dec hi), hg, Option.bind_some]
    rw [if_neg (by simp), Option.bind_some, wr (x := (k' : Int) + 1) ⟨by omega, by omega⟩, if_neg (by simp), wr (x := (k' : Int) + 1 + 1) ⟨by omega, by omega⟩, wr_succ (n := ps.length) (by omega) hi]
    rfl
  · intro k'
    show (if decide ((List.length _ : Int) < (List.length _ : Int)) = true then _ else _) = _
    rw [mapAcc_len, if_neg (by simp)]
theorem heldOrders_eq (ps : List (Int × Int)) (k : Nat) (h : ps.length ≤ 1048576) (hk : k ≤ 1152921504606846976) : laws_heldOrderSS (mapAcc mkP ps k).1 (k : Int) = some (((mapAcc mkP ps k).2 : Nat) : Int) := by
  unfold laws_heldOrderSS
  rw [heldLoop mkP 2 ps k (fun x _ k => mkP_le x k)]
  · rfl
  · intro i hi k' hk' hg
    replace hg : geti (mapAcc mkP ps k).1 (i : Int) = some ((k' : Int), ((k' + 1 : Nat) : Int)) := hg
    show (if decide ((i : Int) < (List.length _ : Int)) = true then _ else _) = _
    rw [mapAcc_len, if_pos (lt_dec hi), hg, Option.bind_some]
    rw [if_neg (by simp), Option.bind_some, wr (x := (k' : Int) + 1) ⟨by omega, by omega⟩, if_neg (by simp), wr (x := (k' : Int) + 1 + 1) ⟨by omega, by omega⟩, wr_succ (n := ps.length) (by omega) hi]
    rfl
  · intro k'
    show (if decide ((List.length _ : Int) < (List.length _ : Int)) = true then _ else _) = _
    rw [mapAcc_len, if_neg (by simp)]
theorem heldItems_eq {xs : List HItem} (h : ItemsL xs) (k : Nat) (hk : k ≤ 4611686018427387) : laws_heldItemSS (mapAcc mkIt xs k).1 (k : Int) = some (((mapAcc mkIt xs k).2 : Nat) : Int) := by
  have hlen := h.1
  unfold laws_heldItemSS
  rw [heldLoop mkIt 4194304 xs k (fun x hx k => mkIt_le (h.2 x hx) k)]
  · rfl
  · intro i hi k' hk' hg
    have hx := h.2 _ (List.getElem_mem hi)
    have hp := mkPs_le xs[i].2.1 (k' + 1)
    replace hg : geti (mapAcc mkIt xs k).1 (i : Int) = some ((k' : Int), (mapAcc mkP xs[i].2.1 (k' + 1)).1, (((mapAcc mkP xs[i].2.1 (k' + 1)).2 : Nat) : Int)) := hg
    show (if decide ((i : Int) < (List.length _ : Int)) = true then _ else _) = _
    rw [mapAcc_len, if_pos (lt_dec hi), hg, Option.bind_some]
    rw [if_neg (by simp), Option.bind_some, wr (x := (k' : Int) + 1) ⟨by omega, by omega⟩, show (k' : Int) + 1 = ((k' + 1 : Nat) : Int) by omega, heldParts_eq _ _ hx (by omega), Option.bind_some, if_neg (by simp), Option.bind_some, if_neg (by simp), wr (x := (((mapAcc mkP xs[i].2.1 (k' + 1)).2 : Nat) : Int) + 1) ⟨by omega, by omega⟩, wr_succ (n := xs.length) (by omega) hi]
    rfl
  · intro k'
    show (if decide ((List.length _ : Int) < (List.length _ : Int)) = true then _ else _) = _
    rw [mapAcc_len, if_neg (by simp)]
theorem heldTables_eq {xs : List HTab} (h : TabsL xs) (k : Nat) (hk : k ≤ 46116860184273879) : laws_heldTableSS (mapAcc mkTb xs k).1 (k : Int) = some (((mapAcc mkTb xs k).2 : Nat) : Int) := by
  have hlen := h.1
  unfold laws_heldTableSS
  rw [heldLoop mkTb 4194304 xs k (fun x hx k => mkTb_le (h.2 x hx).1 (h.2 x hx).2 k)]
  · rfl
  · intro i hi k' hk' hg
    have hx := h.2 _ (List.getElem_mem hi)
    have hp := mkPs_le xs[i].2.1 (k' + 1)
    replace hg : geti (mapAcc mkTb xs k).1 (i : Int) = some ((k' : Int), (mapAcc mkP xs[i].2.1 (k' + 1)).1, (mapAcc mkI xs[i].2.2 (mapAcc mkP xs[i].2.1 (k' + 1)).2).1) := hg
    show (if decide ((i : Int) < (List.length _ : Int)) = true then _ else _) = _
    rw [mapAcc_len, if_pos (lt_dec hi), hg, Option.bind_some]
    rw [if_neg (by simp), Option.bind_some, wr (x := (k' : Int) + 1) ⟨by omega, by omega⟩, show (k' : Int) + 1 = ((k' + 1 : Nat) : Int) by omega, heldOrders_eq _ _ hx.1 (by omega), Option.bind_some, if_neg (by simp), Option.bind_some, heldInts_eq _ _ hx.2 (by omega), Option.bind_some, if_neg (by simp), wr_succ (n := xs.length) (by omega) hi]
    rfl
  · intro k'
    show (if decide ((List.length _ : Int) < (List.length _ : Int)) = true then _ else _) = _
    rw [mapAcc_len, if_neg (by simp)]
theorem heldHouse_eq {it : List HItem} {pr st : List Int} (cash : Int) {tb : List HTab} (h : HouseL it pr st tb) : laws_heldHouseS (mkHouse it pr st tb 1).1.1 (mkHouse it pr st tb 1).1.2.1 (mkHouse it pr st tb 1).1.2.2.1 cash (mkHouse it pr st tb 1).1.2.2.2 1 = some (((mkHouse it pr st tb 1).2 : Nat) : Int) := by
  obtain ⟨hi, hp, hs, ht⟩ := h
  have b1 := mkIts_le hi 1
  have b2 := mkIs_le pr (mapAcc mkIt it 1).2
  have b3 := mkIs_le st (mapAcc mkI pr (mapAcc mkIt it 1).2).2
  have hil := hi.1
  unfold laws_heldHouseS mkHouse
  dsimp only
  rw [show (1 : Int) = ((1 : Nat) : Int) from rfl, heldItems_eq hi 1 (by omega), Option.bind_some, if_neg (by simp), heldInts_eq pr _ hp (by omega), Option.bind_some, if_neg (by simp), heldInts_eq st _ hs (by omega), Option.bind_some, if_neg (by simp), heldTables_eq ht _ (by omega), Option.bind_some, if_neg (by simp)]
end Go.Proofs.YtcjkbcdlpfgbgaaGreatDoor
