import Derived.Test.YtpklpghbkhegnaaGreatDoorMEq
import Derived.Test.YtpklpghbkhegnaaGreatDoorMJr
import Derived.Test.YtpklpghbkhegnaaGreatDoorMDo
/- HouseLine of both sides is the same function. Own work; no program in sight. -/
set_option linter.unusedVariables false
namespace Go.Proofs.YtpklpghbkhegnaaGreatDoor
open Go Go.RowKit
/-! ### numbers and lists of numbers -/
def nmT (n : Int) : List UInt8 := Lib.decDigits n.toNat
theorem numberZ {n : Int} (h0 : 0 ≤ n) (h : n < 1000000000) : spec_l1NumberS n = some (nmT n) := by
  have := (numF 199 n.toNat (by omega) (Nat.lt_of_lt_of_le (show n.toNat < 10 ^ 9 by omega) (Nat.pow_le_pow_right (by omega) (by omega))) (by omega)).1
  rw [show ((n.toNat : Nat) : Int) = n by omega] at this
  exact this
theorem itoaZ {n : Int} (h0 : 0 ≤ n) (h : n < 1000000000) : strconv_ItoaS n = some (nmT n) := by
  unfold strconv_ItoaS Lib.itoa nmT
  rw [if_pos (by omega), if_neg (by omega)]
theorem nmT_len {n : Int} (h0 : 0 ≤ n) (h : n < 1000000000) : (nmT n).length ≤ 10 := (numF 9 n.toNat (by omega) (by omega) (by omega)).2
def noneT : List UInt8 := [110, 111, 110, 101]
def listT (l : List Int) : List UInt8 := if l = [] then noneT else Lib.join (l.map nmT) [44]
theorem join_snoc {xs : List (List UInt8)} (h : xs ≠ []) (x sep : List UInt8) : Lib.join (xs ++ [x]) sep = Lib.join xs sep ++ (sep ++ x) := by
  cases xs with
  | nil => exact absurd rfl h
  | cons y ys =>
    rw [List.cons_append, Lib.join_cons, Lib.join_cons]
    simp [Lib.joinTail]
def OkL (l : List Int) : Prop := l.length ≤ 1000 ∧ ∀ x ∈ l, 0 ≤ x ∧ x < 1000000000
theorem join_len {l : List Int} (h : ∀ x ∈ l, 0 ≤ x ∧ x < 1000000000) : ∀ k, k ≤ l.length → (Lib.join ((l.take k).map nmT) [44]).length ≤ 11 * k
  | 0, _ => by simp [Lib.join_nil]
  | k + 1, hk => by
    have hx := h _ (List.getElem_mem (show k < l.length by omega))
    have h1 := nmT_len hx.1 hx.2
    have ih := join_len h k (by omega)
    rw [List.take_succ_eq_append_getElem (by omega), List.map_append]
    cases k with
    | zero =>
      rw [List.take_zero, List.map_nil, List.nil_append, List.map_cons, List.map_nil, Lib.join_one]
      omega
    | succ j =>
      rw [List.map_cons, List.map_nil, join_snoc (List.ne_nil_of_length_pos (by simp; omega))]
      simp only [List.length_append, List.length_cons, List.length_nil]
      omega
theorem specList_eq {l : List Int} (h : OkL l) : spec_l7ListS l = some (listT l) := by
  obtain ⟨hn, h⟩ := h
  unfold spec_l7ListS listT
  by_cases h0 : l = []
  · subst h0; rfl
  · have hl : 0 < l.length := List.length_pos_iff.2 h0
    have hx0 := h _ (List.getElem_mem hl)
    rw [if_neg (by simp; exact h0), if_neg h0, show geti l 0 = some l[0] from geti_lt' (k := 0) hl, Option.bind_some, numberZ hx0.1 hx0.2, Option.bind_some,
      loopDet (s := (nmT l[0], (1 : Int))) (fun j => (Lib.join ((l.take (j + 1)).map nmT) [44], ((j + 1 : Nat) : Int))) (l.length - 1) (Lib.join (l.map nmT) [44])]
    · rfl
    · have h1 : l.take (0 + 1) = [l[0]] := by rw [List.take_succ_eq_append_getElem hl]; rfl
      (try dsimp only)
      rw [h1, List.map_cons, List.map_nil, Lib.join_one]; rfl
    · intro j hj
      have hj1 : j + 1 < l.length := by omega
      have hx := h _ (List.getElem_mem hj1)
      have h1 := nmT_len hx.1 hx.2
      have h2 := join_len h (j + 1) (by omega)
      (try dsimp only)
      rw [if_pos (lt_dec hj1), strAdd_le (by show (Lib.join _ _).length + 1 ≤ _; omega), Option.bind_some, geti_lt' hj1, Option.bind_some, numberZ hx.1 hx.2, Option.bind_some, strAdd_le (by rw [List.length_append]; show (Lib.join _ _).length + 1 + _ ≤ _; omega), Option.bind_some, wr_succ (n := l.length) (by omega) hj1,
        List.take_succ_eq_append_getElem hj1, List.map_append, List.map_cons, List.map_nil, join_snoc (List.ne_nil_of_length_pos (by simp; omega)), List.append_assoc]
    · (try dsimp only)
      rw [show l.length - 1 + 1 = l.length by omega, if_neg (by simp), List.take_length]
theorem implList_eq {l : List Int} (h : OkL l) : impl_listTextS l = some (listT l) := by
  obtain ⟨hn, h⟩ := h
  unfold impl_listTextS listT
  by_cases h0 : l = []
  · subst h0; rfl
  · rw [if_neg (by simp; exact h0), if_neg h0, mkO_nat _ (by omega), Option.bind_some,
      loopDet (s := ((0 : Int), List.replicate l.length ([] : List UInt8))) (fun j => ((j : Int), (l.take j).map nmT ++ List.replicate (l.length - j) [])) l.length (l.map nmT)]
    · have h2 := join_len h l.length (Nat.le_refl _)
      rw [List.take_length] at h2
      rw [Option.bind_some]
      (try dsimp only)
      unfold strings_JoinS
      rw [if_pos ⟨by simp; omega, by omega⟩]; rfl
    · simp
    · intro j hj
      have hx := h _ (List.getElem_mem hj)
      (try dsimp only)
      have hlen : j < ((l.take j).map nmT ++ List.replicate (l.length - j) ([] : List UInt8)).length := by simp; omega
      rw [if_pos (lt_dec hj), geti_lt' hj, Option.bind_some, itoaZ hx.1 hx.2, Option.bind_some, geti_lt' hlen, Option.bind_some, wr_succ (n := l.length) (by omega) hj]
      congr 4
      rw [show ((j : Int)).toNat = j from rfl, List.take_succ_eq_append_getElem hj, List.map_append, List.set_append_right _ _ (by simp; omega), List.append_assoc]
      congr 1
      rw [show l.length - j = (l.length - (j + 1)) + 1 by omega, List.replicate_succ]
      simp [show min j l.length = j by omega]
    · (try dsimp only)
      rw [if_neg (by simp)]
      simp
theorem readNumber5 (w : List UInt8) : impl_readNumberS w 5 = some (if IsNum 5 w then (((val w : Nat) : Int), true) else (0, false)) := readNumber_m (m := 5) (by omega) w
/-! ### questions -/
def txOk : List UInt8 := [111, 107]
def txNo : List UInt8 := [110, 111]
def txWhat : List UInt8 := [119, 104, 97, 116]
noncomputable def pairZ (h : HH) (w v : List UInt8) : List UInt8 :=
  if IsNum 5 v ∧ w = [98, 105, 108, 108] then (if billZ h.1 h.2.1 h.2.2.1 h.2.2.2.1 h.2.2.2.2 ((val v : Nat) : Int) < 0 then noneT else nmT (billZ h.1 h.2.1 h.2.2.1 h.2.2.2.1 h.2.2.2.2 ((val v : Nat) : Int)))
  else if IsNum 5 v ∧ w = [102, 114, 101, 101] then listT (free h.1 ((val v : Nat) : Int)) else txWhat
noncomputable def wordsZ (h : HH) : List (List UInt8) → List UInt8
  | [w, v] => pairZ h w v
  | _ => txWhat
noncomputable def answerZ (h : HH) (s : List UInt8) : List UInt8 :=
  if s = [115, 116, 111, 99, 107] then listT h.2.2.1
  else if s = [99, 97, 115, 104] then nmT h.2.2.2.1
  else if s = [116, 97, 98, 108, 101, 115] then nmT (h.2.2.2.2.length : Int)
  else if s = [108, 101, 102, 116] then nmT (leftZ (ticksOf h.2.2.2.2))
  else wordsZ h (pieces 32 s)
def noH : HH := ([], [], [], 0, [])
noncomputable def lineZ (h : HH) (s : List UInt8) : HH × List UInt8 :=
  if hB h = true then
    if (readS s).2 = true then ((stepZ h (readS s).1).1, if (stepZ h (readS s).1).2 then txOk else txNo)
    else if s = [101, 110, 100] then ((goR h (endZ h.1 h.2.1 h.2.2.1 h.2.2.2.1 h.2.2.2.2)).1, txOk)
    else (h, answerZ h s)
  else (noH, [])
theorem endZ_len {h : HH} (hv : hB h = true) : (endZ h.1 h.2.1 h.2.2.1 h.2.2.2.1 h.2.2.2.2).length ≤ 1048576 := by
  unfold endZ
  rw [if_pos (show houseB _ _ _ _ _ = true from hv)]
  have h1 := kit_left (houseB_kit (show houseB _ _ _ _ _ = true from hv))
  have h2 := (houseB_tables (show houseB _ _ _ _ _ = true from hv)).1
  unfold endDeeds
  simp
  omega
section
variable {h : HH}
theorem left_range (hv : hB h = true) : 0 ≤ leftZ (ticksOf h.2.2.2.2) ∧ leftZ (ticksOf h.2.2.2.2) < 1000000000 := by
  have h1 := houseB_kit (show houseB _ _ _ _ _ = true from hv)
  have h2 := kit_left h1
  unfold leftZ
  rw [if_pos h1]
  omega
theorem stock_ok (hv : hB h = true) : OkL h.2.2.1 := by
  obtain ⟨h1, h2⟩ := houseB_stock (show houseB _ _ _ _ _ = true from hv)
  have h3 := itemsB_len (houseB_items (show houseB _ _ _ _ _ = true from hv))
  exact ⟨by omega, fun x hx => by have := h2 x hx; omega⟩
theorem free_ok (hv : hB h = true) (a : Int) : OkL (free h.1 a) := by
  have h3 := itemsB_len (houseB_items (show houseB _ _ _ _ _ = true from hv))
  refine ⟨?_, fun x hx => by have := free_idx hx; omega⟩
  unfold free
  split
  · have := freeTo_len h.1 a.toNat h.1.length; omega
  · simp
theorem billZ_top (hv : hB h = true) (p : Int) : billZ h.1 h.2.1 h.2.2.1 h.2.2.2.1 h.2.2.2.2 p < 1000000000 := by
  unfold billZ
  split
  · have := (billOf_range (show houseB _ _ _ _ _ = true from hv) p.toNat).2; omega
  · omega
theorem no_space {v : List UInt8} (h : (32 : UInt8) ∈ v) : ¬ IsNum 5 v := fun hn => by
  have := hn.2.1 _ h
  revert this; decide
theorem implAnswer_eq (hL : HL h) (hv : hB h = true) (s : List UInt8) (hs : s.length ≤ 1048576) : impl_answerToS h.1 h.2.1 h.2.2.1 h.2.2.2.1 h.2.2.2.2 s = some (answerZ h s) := by
  have hc := houseB_cash (show houseB _ _ _ _ _ = true from hv)
  have ht := (houseB_tables (show houseB _ _ _ _ _ = true from hv)).1
  have hl := left_range hv
  unfold impl_answerToS answerZ
  by_cases e1 : s = [115, 116, 111, 99, 107]
  · rw [if_pos (by simpa using e1), if_pos e1, implList_eq (stock_ok hv)]; rfl
  rw [if_neg (by simpa using e1), if_neg e1]
  by_cases e2 : s = [99, 97, 115, 104]
  · rw [if_pos (by simpa using e2), if_pos e2, itoaZ hc.1 (by omega)]; rfl
  rw [if_neg (by simpa using e2), if_neg e2]
  by_cases e3 : s = [116, 97, 98, 108, 101, 115]
  · rw [if_pos (by simpa using e3), if_pos e3, itoaZ (by omega) (by omega)]; rfl
  rw [if_neg (by simpa using e3), if_neg e3]
  by_cases e4 : s = [108, 101, 102, 116]
  · rw [if_pos (by simpa using e4), if_pos e4, implTicks_eq _ hL.2.2.2, Option.bind_some, implLeft_eq hL.2.2.2.ticks, Option.bind_some, itoaZ hl.1 hl.2]; rfl
  rw [if_neg (by simpa using e4), if_neg e4]
  have hcut : strings_CutS s [32] = some (Lib.cut s [32]) := by unfold strings_CutS; rw [if_pos (by omega)]
  rw [hcut, Option.bind_some]
  rcases indexByte_pieces 32 s with ⟨g1, g2⟩ | ⟨i, g1, g2, g3⟩
  · have hcc : Lib.cut s [32] = (s, [], false) := by
      unfold Lib.cut
      rw [Lib.index_one, g1]; rfl
    rw [hcc, g2, readNumber5, if_neg (fun hn : IsNum 5 [] => by have := hn.1.1; simp at this), Option.bind_some]
    rfl
  · have hcc : Lib.cut s [32] = (s.take i, s.drop (i + 1), true) := by
      unfold Lib.cut
      rw [Lib.index_one, g1, if_pos (by omega)]; rfl
    rw [hcc, g3]
    (try dsimp only)
    generalize s.take i = w
    generalize s.drop (i + 1) = v
    rw [readNumber5, Option.bind_some]
    by_cases hsp : (32 : UInt8) ∈ v
    · rw [if_neg (no_space hsp)]
      have hp : wordsZ h (w :: pieces 32 v) = txWhat := by
        rcases indexByte_pieces 32 v with ⟨k1, k2⟩ | ⟨j, k1, k2, k3⟩
        · exact absurd hsp (pieces_mem (c := 32) (l := v) (by rw [k2]; simp))
        · rw [k3]
          cases hq : pieces 32 (v.drop (j + 1)) with
          | nil => exact absurd hq (pieces_ne _ _)
          | cons a b => rfl
      rw [hp]; rfl
    · rw [pieces_none hsp]
      show _ = some (pairZ h w v)
      unfold pairZ
      by_cases hn : IsNum 5 v
      · rw [if_pos hn]
        (try dsimp only)
        by_cases w1 : w = [98, 105, 108, 108]
        · rw [if_pos (show IsNum 5 v ∧ w = [98, 105, 108, 108] from ⟨hn, w1⟩), if_pos (by simpa using w1), implBill_eq _ hL, Option.bind_some]
          have hb := billZ_top hv ((val v : Nat) : Int)
          by_cases hneg : billZ h.1 h.2.1 h.2.2.1 h.2.2.2.1 h.2.2.2.2 ((val v : Nat) : Int) < 0
          · rw [if_pos (decide_eq_true hneg), if_pos hneg]; rfl
          · rw [if_neg (by simpa using hneg), if_neg hneg, itoaZ (by omega) hb]; rfl
        · rw [if_neg (fun hh : IsNum 5 v ∧ w = [98, 105, 108, 108] => w1 hh.2), if_neg (by simpa using w1)]
          by_cases w2 : w = [102, 114, 101, 101]
          · rw [if_pos (show IsNum 5 v ∧ w = [102, 114, 101, 101] from ⟨hn, w2⟩), if_pos (by simpa using w2), implFree_eq hL.1, Option.bind_some, implList_eq (free_ok hv _)]; rfl
          · rw [if_neg (fun hh : IsNum 5 v ∧ w = [102, 114, 101, 101] => w2 hh.2), if_neg (by simpa using w2)]; rfl
      · rw [if_neg hn, if_neg (fun hh : IsNum 5 v ∧ w = [98, 105, 108, 108] => hn hh.1), if_neg (fun hh : IsNum 5 v ∧ w = [102, 114, 101, 101] => hn hh.1)]; rfl
theorem implLine_eq (hL : HL h) (s : List UInt8) (hs : s.length ≤ 1048576) : impl_HouseLineS h.1 h.2.1 h.2.2.1 h.2.2.2.1 h.2.2.2.2 s = some (lineZ h s) := by
  unfold impl_HouseLineS lineZ
  rw [implHouse_eq _ hL, Option.bind_some]
  by_cases hv : hB h = true
  · have hv' : houseB h.1 h.2.1 h.2.2.1 h.2.2.2.1 h.2.2.2.2 = true := hv
    rw [hv', if_neg (by simp), if_pos hv, implRead_eq _ hs, Option.bind_some]
    by_cases hr : (readS s).2 = true
    · rw [if_pos hr, if_pos hr, implDo_eq hL, Option.bind_some]
      show (if (!(stepZ h (readS s).1).2) = true then _ else _) = _
      cases hd : (stepZ h (readS s).1).2 <;> rfl
    · rw [if_neg hr, if_neg hr]
      by_cases e : s = [101, 110, 100]
      · rw [if_pos (by simpa using e), if_pos e, implEnd_eq _ hL, Option.bind_some, implRun_eq hL _ (endZ_len hv)]; rfl
      · rw [if_neg (by simpa using e), if_neg e, implCopyH_id _ hL, Option.bind_some, implAnswer_eq hL hv s hs]; rfl
  · have hv' : ¬ houseB h.1 h.2.1 h.2.2.1 h.2.2.2.1 h.2.2.2.2 = true := hv
    rw [if_pos (by simpa using hv'), if_neg hv]; rfl
theorem rd_nonneg (v : List UInt8) : decide (rd v ≥ 0) = decide (IsNum 5 v) := by
  unfold rd
  by_cases h : IsNum 5 v
  · rw [if_pos h, decide_eq_true h]; exact decide_eq_true (by omega)
  · rw [if_neg h, decide_eq_false h]; rfl
theorem specLine_eq (hL : HL h) (s : List UInt8) (hs : s.length ≤ 1048576) : spec_HouseLineS h.1 h.2.1 h.2.2.1 h.2.2.2.1 h.2.2.2.2 s = some (lineZ h s) := by
  unfold spec_HouseLineS lineZ
  rw [specHouse_eq _ hL, Option.bind_some]
  by_cases hv : hB h = true
  · have hv' : houseB h.1 h.2.1 h.2.2.1 h.2.2.2.1 h.2.2.2.2 = true := hv
    have hc := houseB_cash hv'
    have ht := (houseB_tables hv').1
    have hl := left_range hv
    have hcut := cut_eq s 32 hs
    rw [show ((((32 : UInt8)).toNat : Nat) : Int) = 32 from rfl] at hcut
    have hb : ((if ((List.length (pieces 32 s) : Int) == 2) = true then ((geti (pieces 32 s) (IntKind.wrap .i64 ((List.length (pieces 32 s) : Int) - 1))).bind fun x53 => ((spec_l1ReadS x53).bind fun x59 => some (decide (x59 ≥ 0)))) else some false) : Option Bool) = some (match pieces 32 s with | [_, v] => decide (IsNum 5 v) | _ => false) := by
      generalize pieces 32 s = ps
      match ps with
      | [] => rfl
      | [_] => rfl
      | [w, v] =>
        rw [if_pos (by rfl), show IntKind.wrap .i64 ((List.length [w, v] : Int) - 1) = 1 from wr (x := 1) ⟨by omega, by omega⟩, show geti [w, v] 1 = some v from rfl, Option.bind_some, read_eq, Option.bind_some]
        exact congrArg some (rd_nonneg v)
      | _ :: _ :: _ :: l =>
        rw [if_neg (by simp; omega)]
    rw [hv', if_neg (by simp), if_pos hv, specRead_eq _ hs, Option.bind_some, hcut, Option.bind_some, specCopyH_id _ hL, Option.bind_some, hb, Option.bind_some]
    by_cases hr : (readS s).2 = true
    · rw [if_pos hr, if_pos hr, specDo_eq hL, Option.bind_some]
      show (if (!(stepZ h (readS s).1).2) = true then _ else _) = _
      cases hd : (stepZ h (readS s).1).2 <;> rfl
    · rw [if_neg hr, if_neg hr]
      by_cases e : s = [101, 110, 100]
      · rw [if_pos (by simpa using e), if_pos e, specEnd_eq _ hL, Option.bind_some, specRun_eq hL _ (endZ_len hv)]; rfl
      · rw [if_neg (by simpa using e), if_neg e]
        unfold answerZ
        by_cases e1 : s = [115, 116, 111, 99, 107]
        · rw [if_pos (by simpa using e1), if_pos e1, specList_eq (stock_ok hv)]; rfl
        rw [if_neg (by simpa using e1), if_neg e1]
        by_cases e2 : s = [99, 97, 115, 104]
        · rw [if_pos (by simpa using e2), if_pos e2, numberZ hc.1 (by omega)]; rfl
        rw [if_neg (by simpa using e2), if_neg e2]
        by_cases e3 : s = [116, 97, 98, 108, 101, 115]
        · rw [if_pos (by simpa using e3), if_pos e3, numberZ (by omega) (by omega)]; rfl
        rw [if_neg (by simpa using e3), if_neg e3]
        by_cases e4 : s = [108, 101, 102, 116]
        · rw [if_pos (by simpa using e4), if_pos e4, specTicks_eq _ hL.2.2.2, Option.bind_some, specLeft_eq hL.2.2.2.ticks, Option.bind_some, numberZ hl.1 hl.2]; rfl
        rw [if_neg (by simpa using e4), if_neg e4]
        have hne := pieces_ne 32 s
        generalize pieces 32 s = ps at hne ⊢
        match ps with
        | [] => exact absurd rfl hne
        | [w] =>
          show ((geti [w] 0).bind _) = _
          rw [show geti [w] 0 = some w from rfl]
          simp [wordsZ, txWhat]
        | _ :: _ :: _ :: l =>
          simp [wordsZ, txWhat, geti]
        | [w, v] =>
          show _ = some (h, pairZ h w v)
          unfold pairZ
          rw [show geti [w, v] 0 = some w from rfl, show geti [w, v] 1 = some v from rfl]
          simp only [Option.bind_some]
          by_cases hn : IsNum 5 v
          · rw [read_eq, if_pos hn]
            simp only [Option.bind_some, decide_eq_true hn, Bool.and_true, hn, true_and]
            by_cases w1 : w = [98, 105, 108, 108]
            · have hb2 := billZ_top hv ((val v : Nat) : Int)
              rw [if_pos (by simpa using w1), specBill_eq _ hL, if_pos w1]
              simp only [Option.bind_some]
              by_cases hneg : billZ h.1 h.2.1 h.2.2.1 h.2.2.2.1 h.2.2.2.2 ((val v : Nat) : Int) < 0
              · rw [if_pos (decide_eq_true hneg), if_pos hneg]; rfl
              · rw [if_neg (by simpa using hneg), if_neg hneg, if_pos (by simpa using w1), numberZ (by omega) hb2]; rfl
            · rw [if_neg (by simpa using w1), Option.bind_some, if_neg (by simp), if_neg (by simpa using w1), if_neg w1]
              by_cases w2 : w = [102, 114, 101, 101]
              · rw [if_pos (by simpa using w2), if_pos w2, specFree_eq hL.1, Option.bind_some, specList_eq (free_ok hv _)]; rfl
              · rw [if_neg (by simpa using w2), if_neg w2]; rfl
          · simp [hn, txWhat]
  · have hv' : ¬ houseB h.1 h.2.1 h.2.2.1 h.2.2.2.1 h.2.2.2.2 = true := hv
    rw [if_pos (by simpa using hv'), if_neg hv]; rfl
end
end Go.Proofs.YtpklpghbkhegnaaGreatDoor

/- HouseLines of both sides: lines said one behind the other. Own work; no program in sight. -/
set_option linter.unusedVariables false
namespace Go.Proofs.YtpklpghbkhegnaaGreatDoor
open Go Go.RowKit
theorem noH_HL : HL noH := ⟨⟨by simp [noH], fun x hx => by cases hx⟩, by simp [noH], by simp [noH], by simp [noH], fun x hx => by cases hx⟩
theorem lineZ_HL {h : HH} (hL : HL h) (s : List UInt8) : HL (lineZ h s).1 := by
  unfold lineZ
  split
  · split
    · exact stepZ_L hL _
    · split
      · exact goR_L hL _
      · exact hL
  · exact noH_HL
theorem lineZ_hB {h : HH} (hL : HL h) (hv : hB h = true) (s : List UInt8) : hB (lineZ h s).1 = true := by
  unfold lineZ
  rw [if_pos hv]
  split
  · exact (stepZ_cases hv (readS s).1).1
  · split
    · show hB (goR h _).1 = true
      unfold goR
      rw [if_pos hv]
      exact (goZ_all hL hv _).2.1
    · exact hv
noncomputable def gline (s : HH × List (List UInt8)) (l : List UInt8) : HH × List (List UInt8) := ((lineZ s.1 l).1, s.2 ++ [(lineZ s.1 l).2])
noncomputable def linesG (ls : List (List UInt8)) (h : HH) : HH × List (List UInt8) := ls.foldl gline (h, [])
noncomputable def linesZ (h : HH) (ls : List (List UInt8)) : HH × List (List UInt8) := if hB h = true ∧ ls.length ≤ 40 then linesG ls h else (noH, [])
theorem linesG_succ (ls : List (List UInt8)) (h : HH) {k : Nat} (hk : k < ls.length) : linesG (ls.take (k + 1)) h = gline (linesG (ls.take k) h) ls[k] := by
  unfold linesG
  rw [List.take_succ_eq_append_getElem hk, List.foldl_append]; rfl
theorem linesG_all {h : HH} (hL : HL h) (hv : hB h = true) (ls : List (List UInt8)) : HL (linesG ls h).1 ∧ hB (linesG ls h).1 = true ∧ (linesG ls h).2.length = ls.length := by
  have key : ∀ (ls : List (List UInt8)) (s : HH × List (List UInt8)), HL s.1 → hB s.1 = true → HL (ls.foldl gline s).1 ∧ hB (ls.foldl gline s).1 = true ∧ (ls.foldl gline s).2.length = s.2.length + ls.length := by
    intro ls
    induction ls with
    | nil => intro s h1 h2; exact ⟨h1, h2, rfl⟩
    | cons l ls ih =>
      intro s h1 h2
      have := ih (gline s l) (lineZ_HL h1 l) (lineZ_hB h1 h2 l)
      refine ⟨this.1, this.2.1, this.2.2.trans ?_⟩
      show (s.2 ++ [(lineZ s.1 l).2]).length + ls.length = s.2.length + (ls.length + 1)
      simp; omega
  simpa [linesG] using key ls (h, []) hL hv
section
variable {h : HH}
theorem implLines_eq (hL : HL h) (ls : List (List UInt8)) (hs : ∀ l ∈ ls, l.length ≤ 1048576) : impl_HouseLinesS h.1 h.2.1 h.2.2.1 h.2.2.2.1 h.2.2.2.2 ls = some (linesZ h ls) := by
  unfold impl_HouseLinesS linesZ
  rw [implHouse_eq _ hL, Option.bind_some]
  by_cases hv : hB h = true ∧ ls.length ≤ 40
  · obtain ⟨hv, h40⟩ := hv
    rw [if_neg (by rw [show houseB _ _ _ _ _ = true from hv]; simp; omega), if_pos ⟨hv, h40⟩, implCopyH_id _ hL, Option.bind_some, mkO_nat _ (by omega), Option.bind_some,
      loopDet (s := ((0 : Int), h.1, h.2.1, h.2.2.1, h.2.2.2.1, h.2.2.2.2, List.replicate ls.length ([] : List UInt8))) (fun k => ((k : Int), (linesG (ls.take k) h).1.1, (linesG (ls.take k) h).1.2.1, (linesG (ls.take k) h).1.2.2.1, (linesG (ls.take k) h).1.2.2.2.1, (linesG (ls.take k) h).1.2.2.2.2, (linesG (ls.take k) h).2 ++ List.replicate (ls.length - k) [])) ls.length
        ((linesG ls h).1.1, (linesG ls h).1.2.1, (linesG ls h).1.2.2.1, (linesG ls h).1.2.2.2.1, (linesG ls h).1.2.2.2.2, (linesG ls h).2) rfl]
    · rfl
    · intro k hk
      have ha := linesG_all hL hv (ls.take k)
      have hl2 : (linesG (ls.take k) h).2.length = k := by rw [ha.2.2]; simp; omega
      (try dsimp only)
      have hlen : k < ((linesG (ls.take k) h).2 ++ List.replicate (ls.length - k) ([] : List UInt8)).length := by simp; omega
      rw [if_pos (lt_dec hk), geti_lt' hk, Option.bind_some, implLine_eq ha.1 _ (hs _ (List.getElem_mem hk)), Option.bind_some, geti_lt' hlen, Option.bind_some, wr_succ (n := ls.length) (by omega) hk, linesG_succ ls h hk]
      unfold gline
      have hset : ((linesG (ls.take k) h).2 ++ List.replicate (ls.length - k) ([] : List UInt8)).set ((k : Int)).toNat (lineZ (linesG (ls.take k) h).1 ls[k]).2 = (linesG (ls.take k) h).2 ++ [(lineZ (linesG (ls.take k) h).1 ls[k]).2] ++ List.replicate (ls.length - (k + 1)) [] := by
        rw [show ((k : Int)).toNat = k from rfl, List.set_append_right _ _ (by omega), hl2, show ls.length - k = (ls.length - (k + 1)) + 1 by omega, List.replicate_succ]
        simp
      rw [hset]
    · (try dsimp only)
      rw [if_neg (by simp), List.take_length]
      simp
  · rw [if_pos (by
      by_cases h1 : hB h = true
      · have : ¬ ls.length ≤ 40 := fun h2 => hv ⟨h1, h2⟩
        simp; omega
      · have h2 : houseB h.1 h.2.1 h.2.2.1 h.2.2.2.1 h.2.2.2.2 = false := by simpa [hB] using h1
        rw [h2]; rfl), if_neg hv]; rfl
theorem specLines_eq (hL : HL h) (ls : List (List UInt8)) (hs : ∀ l ∈ ls, l.length ≤ 1048576) : spec_HouseLinesS h.1 h.2.1 h.2.2.1 h.2.2.2.1 h.2.2.2.2 ls = some (linesZ h ls) := by
  unfold spec_HouseLinesS linesZ
  rw [specHouse_eq _ hL, Option.bind_some]
  by_cases hv : hB h = true ∧ ls.length ≤ 40
  · obtain ⟨hv, h40⟩ := hv
    rw [if_neg (by rw [show houseB _ _ _ _ _ = true from hv]; simp; omega), if_pos ⟨hv, h40⟩, specCopyH_id _ hL, Option.bind_some,
      loopDet (s := (([] : List (List UInt8)), (0 : Int), h.1, h.2.1, h.2.2.1, h.2.2.2.1, h.2.2.2.2)) (fun k => ((linesG (ls.take k) h).2, (k : Int), (linesG (ls.take k) h).1.1, (linesG (ls.take k) h).1.2.1, (linesG (ls.take k) h).1.2.2.1, (linesG (ls.take k) h).1.2.2.2.1, (linesG (ls.take k) h).1.2.2.2.2)) ls.length
        ((linesG ls h).2, (linesG ls h).1.1, (linesG ls h).1.2.1, (linesG ls h).1.2.2.1, (linesG ls h).1.2.2.2.1, (linesG ls h).1.2.2.2.2) rfl]
    · rfl
    · intro k hk
      have ha := linesG_all hL hv (ls.take k)
      have hl2 : (linesG (ls.take k) h).2.length = k := by rw [ha.2.2]; simp; omega
      (try dsimp only)
      rw [if_pos (lt_dec hk), geti_lt' hk, Option.bind_some, specLine_eq ha.1 _ (hs _ (List.getElem_mem hk)), Option.bind_some, appO_le (by simp; omega), Option.bind_some, wr_succ (n := ls.length) (by omega) hk, linesG_succ ls h hk]
      rfl
    · (try dsimp only)
      rw [if_neg (by simp), List.take_length]
  · rw [if_pos (by
      by_cases h1 : hB h = true
      · have : ¬ ls.length ≤ 40 := fun h2 => hv ⟨h1, h2⟩
        simp; omega
      · have h2 : houseB h.1 h.2.1 h.2.2.1 h.2.2.2.1 h.2.2.2.2 = false := by simpa [hB] using h1
        rw [h2]; rfl), if_neg hv]; rfl
end
end Go.Proofs.YtpklpghbkhegnaaGreatDoor

/- (nothing of this text is needed here) -/

/- (nothing of this text is needed here) -/

/- (nothing of this text is needed here) -/

/- The marks stand where they were put; the law of one deed. Own work; no program in sight. -/
set_option linter.unusedVariables false
namespace Go.Proofs.YtpklpghbkhegnaaGreatDoor
open Go Go.RowKit
theorem heldInts_eq (ps : List Int) (k : Nat) (h : ps.length ≤ 1048576) (hk : k ≤ 1152921504606846976) : laws_heldIntSS (mapAcc mkI ps k).1 (k : Int) = some (((mapAcc mkI ps k).2 : Nat) : Int) := by
  unfold laws_heldIntSS
  rw [heldLoop mkI 1 ps k (fun x _ k => mkI_le x k)]
  · rfl
  · intro i hi k' hk' hg
    replace hg : geti (mapAcc mkI ps k).1 (i : Int) = some (k' : Int) := hg
    show (if decide ((i : Int) < (List.length _ : Int)) = true then _ else _) = _
    rw [mapAcc_len, if_pos (lt_dec hi), hg, Option.bind_some]
    rw [if_neg (by simp), wr (x := (k' : Int) + 1) ⟨by omega, by omega⟩, wr_succ (n := ps.length) (by omega) hi]
    rfl
  · intro k'
    show (if decide ((List.length _ : Int) < (List.length _ : Int)) = true then _ else _) = _
    rw [mapAcc_len, if_neg (by simp)]
theorem heldParts_eq (ps : List (Int × Int)) (k : Nat) (h : ps.length ≤ 1048576) (hk : k ≤ 1152921504606846976) : laws_heldPartSS (mapAcc mkP ps k).1 (k : Int) = some (((mapAcc mkP ps k).2 : Nat) : Int) := by
  unfold laws_heldPartSS
  rw [heldLoop mkP 2 ps k (fun x _ k => mkP_le x k)]
  · rfl
  · intro i hi k' hk' hg
    replace hg : geti (mapAcc mkP ps k).1 (i : Int) = some ((k' : Int), ((k' + 1 : Nat) : Int)) := hg
    show (if decide ((i : Int) < (List.length _ : Int)) = true then _ else _) = _
    rw [mapAcc_len, if_pos (lt_dec hi), hg, Option.bind_some]
    rw [if_neg (by simp), Option.bind_some, wr (x := (k' : Int) + 1) ⟨by omega, by omega⟩, if_neg (by simp), wr (x := (k' : Int) + 1 + 1) ⟨by omega, by omega⟩, wr_succ (n := ps.length) (by omega) hi]
    rfl
  · intro k'
    show (if decide ((List.length _ : Int) < (List.length _ : Int)) = true then _ else _) = _
    rw [mapAcc_len, if_neg (by simp)]
theorem heldOrders_eq (ps : List (Int × Int)) (k : Nat) (h : ps.length ≤ 1048576) (hk : k ≤ 1152921504606846976) : laws_heldOrderSS (mapAcc mkP ps k).1 (k : Int) = some (((mapAcc mkP ps k).2 : Nat) : Int) := by
  unfold laws_heldOrderSS
  rw [heldLoop mkP 2 ps k (fun x _ k => mkP_le x k)]
  · rfl
  · intro i hi k' hk' hg
    replace hg : geti (mapAcc mkP ps k).1 (i : Int) = some ((k' : Int), ((k' + 1 : Nat) : Int)) := hg
    show (if decide ((i : Int) < (List.length _ : Int)) = true then _ else _) = _
    rw [mapAcc_len, if_pos (lt_dec hi), hg, Option.bind_some]
    rw [if_neg (by simp), Option.bind_some, wr (x := (k' : Int) + 1) ⟨by omega, by omega⟩, if_neg (by simp), wr (x := (k' : Int) + 1 + 1) ⟨by omega, by omega⟩, wr_succ (n := ps.length) (by omega) hi]
    rfl
  · intro k'
    show (if decide ((List.length _ : Int) < (List.length _ : Int)) = true then _ else _) = _
    rw [mapAcc_len, if_neg (by simp)]
theorem heldItems_eq {xs : List HItem} (h : ItemsL xs) (k : Nat) (hk : k ≤ 4611686018427387) : laws_heldItemSS (mapAcc mkIt xs k).1 (k : Int) = some (((mapAcc mkIt xs k).2 : Nat) : Int) := by
  have hlen := h.1
  unfold laws_heldItemSS
  rw [heldLoop mkIt 4194304 xs k (fun x hx k => mkIt_le (h.2 x hx) k)]
  · rfl
  · intro i hi k' hk' hg
    have hx := h.2 _ (List.getElem_mem hi)
    have hp := mkPs_le xs[i].2.1 (k' + 1)
    replace hg : geti (mapAcc mkIt xs k).1 (i : Int) = some ((k' : Int), (mapAcc mkP xs[i].2.1 (k' + 1)).1, (((mapAcc mkP xs[i].2.1 (k' + 1)).2 : Nat) : Int)) := hg
    show (if decide ((i : Int) < (List.length _ : Int)) = true then _ else _) = _
    rw [mapAcc_len, if_pos (lt_dec hi), hg, Option.bind_some]
    rw [if_neg (by simp), Option.bind_some, wr (x := (k' : Int) + 1) ⟨by omega, by omega⟩, show (k' : Int) + 1 = ((k' + 1 : Nat) : Int) by omega, heldParts_eq _ _ hx (by omega), Option.bind_some, if_neg (by simp), Option.bind_some, if_neg (by simp), wr (x := (((mapAcc mkP xs[i].2.1 (k' + 1)).2 : Nat) : Int) + 1) ⟨by omega, by omega⟩, wr_succ (n := xs.length) (by omega) hi]
    rfl
  · intro k'
    show (if decide ((List.length _ : Int) < (List.length _ : Int)) = true then _ else _) = _
    rw [mapAcc_len, if_neg (by simp)]
theorem heldTables_eq {xs : List HTab} (h : TabsL xs) (k : Nat) (hk : k ≤ 46116860184273879) : laws_heldTableSS (mapAcc mkTb xs k).1 (k : Int) = some (((mapAcc mkTb xs k).2 : Nat) : Int) := by
  have hlen := h.1
  unfold laws_heldTableSS
  rw [heldLoop mkTb 4194304 xs k (fun x hx k => mkTb_le (h.2 x hx).1 (h.2 x hx).2 k)]
  · rfl
  · intro i hi k' hk' hg
    have hx := h.2 _ (List.getElem_mem hi)
    have hp := mkPs_le xs[i].2.1 (k' + 1)
    replace hg : geti (mapAcc mkTb xs k).1 (i : Int) = some ((k' : Int), (mapAcc mkP xs[i].2.1 (k' + 1)).1, (mapAcc mkI xs[i].2.2 (mapAcc mkP xs[i].2.1 (k' + 1)).2).1) := hg
    show (if decide ((i : Int) < (List.length _ : Int)) = true then _ else _) = _
    rw [mapAcc_len, if_pos (lt_dec hi), hg, Option.bind_some]
    rw [if_neg (by simp), Option.bind_some, wr (x := (k' : Int) + 1) ⟨by omega, by omega⟩, show (k' : Int) + 1 = ((k' + 1 : Nat) : Int) by omega, heldOrders_eq _ _ hx.1 (by omega), Option.bind_some, if_neg (by simp), Option.bind_some, heldInts_eq _ _ hx.2 (by omega), Option.bind_some, if_neg (by simp), wr_succ (n := xs.length) (by omega) hi]
    rfl
  · intro k'
    show (if decide ((List.length _ : Int) < (List.length _ : Int)) = true then _ else _) = _
    rw [mapAcc_len, if_neg (by simp)]
theorem heldHouse_eq {it : List HItem} {pr st : List Int} (cash : Int) {tb : List HTab} (h : HouseL it pr st tb) : laws_heldHouseS (mkHouse it pr st tb 1).1.1 (mkHouse it pr st tb 1).1.2.1 (mkHouse it pr st tb 1).1.2.2.1 cash (mkHouse it pr st tb 1).1.2.2.2 1 = some (((mkHouse it pr st tb 1).2 : Nat) : Int) := by
  obtain ⟨hi, hp, hs, ht⟩ := h
  have b1 := mkIts_le hi 1
  have b2 := mkIs_le pr (mapAcc mkIt it 1).2
  have b3 := mkIs_le st (mapAcc mkI pr (mapAcc mkIt it 1).2).2
  have hil := hi.1
  unfold laws_heldHouseS mkHouse
  dsimp only
  rw [show (1 : Int) = ((1 : Nat) : Int) from rfl, heldItems_eq hi 1 (by omega), Option.bind_some, if_neg (by simp), heldInts_eq pr _ hp (by omega), Option.bind_some, if_neg (by simp), heldInts_eq st _ hs (by omega), Option.bind_some, if_neg (by simp), heldTables_eq ht _ (by omega), Option.bind_some, if_neg (by simp)]
end Go.Proofs.YtpklpghbkhegnaaGreatDoor

/- (nothing of this text is needed here) -/

/- FnExactHouseLines. Own work; no program in sight. -/
set_option linter.unusedVariables false
namespace Go.Proofs.YtpklpghbkhegnaaGreatDoor
open Go Go.RowKit
def RTexts (xs : List (List UInt8)) : Prop := xs.length ≤ 9223372036854775807 ∧ ∀ x ∈ xs, x.length ≤ 9223372036854775807
def TextsL (xs : List (List UInt8)) : Prop := xs.length ≤ 1048576 ∧ ∀ x ∈ xs, x.length ≤ 1048576
theorem szTexts_ok (xs : List (List UInt8)) {b : Int} (hb : 0 ≤ b ∧ b ≤ 1048576) (h : RTexts xs) : SzOk (laws_szStringSS xs b) b (TextsL xs) := by
  unfold laws_szStringSS
  refine sz_list xs (fun x => x.length ≤ 1048576) (fun x c => if decide (IntKind.wrap .i64 (c - (x.length : Int)) < 0) then some (-1) else some (IntKind.wrap .i64 (c - (x.length : Int)))) hb h.1 (fun x hx c hc => sz_flat hc (h.2 x hx)) (fun c k hk => ?_) (fun c => ?_)
  · (try dsimp only)
    rw [if_pos (lt_dec hk), geti_lt' hk, Option.bind_some]
    by_cases hd : IntKind.wrap .i64 (c - (xs[k].length : Int)) < 0
    · rw [if_pos (decide_eq_true hd), if_pos (decide_eq_true hd), Option.bind_some, if_pos (by decide)]
    · rw [if_neg (by simpa using hd), if_neg (by simpa using hd), Option.bind_some, if_neg (by simpa using hd)]
  · (try dsimp only)
    rw [if_neg (by simp)]
theorem toTexts_id (ps : List (List UInt8)) (h : ps.length ≤ 1048576) : laws_toStringSS ps = some ps := by
  unfold laws_toStringSS
  rw [mkO_nat _ (by omega), Option.bind_some, copyLoop ps (fun x => x), map_self]
  · rfl
  · intro k hk ys hl
    (try dsimp only)
    rw [if_pos (lt_dec hk), geti_lt' hk, Option.bind_some, geti_any hl hk, Option.bind_some, wr_succ (n := ps.length) (by omega) hk]
    rfl
  · intro ys hl
    (try dsimp only)
    rw [if_neg (by simp)]
theorem eqTexts_self (xs : List (List UInt8)) (h : xs.length ≤ 1048576) : laws_eqStringSS xs xs = some true := by
  unfold laws_eqStringSS
  rw [if_neg (by simp), loopEq xs xs rfl]
  · rw [if_pos rfl]; rfl
  · intro k hk hy
    (try dsimp only)
    rw [if_pos (lt_dec hk), geti_lt' hk, Option.bind_some, Option.bind_some, wr_succ (n := xs.length) (by omega) hk, if_neg (by simp), if_pos rfl]
  · (try dsimp only)
    rw [if_neg (by simp)]
theorem markText_ok (k : Nat) (hk : k ≤ 5000000000000000000) : Ret (laws_markTextS (k : Int)) (fun _ => True) := by
  unfold laws_markTextS
  refine Ret.ite (fun _ => Ret.pure trivial) (fun h => ?_)
  refine Ret.loopb (fun s : Int × List UInt8 => (0 ≤ s.1 ∧ s.1 ≤ 5000000000000000000) ∧ s.2.length ≤ 20 ∧ s.1.toNat < 10 ^ (20 - s.2.length)) (fun s => s.1.toNat) (fun o => o.length ≤ 20) ⟨⟨by show (0 : Int) ≤ (k : Int); omega, by show (k : Int) ≤ _; omega⟩, by simp, ?_⟩ ?_ (fun o ho => ?_)
  · show k < 10 ^ 20
    have : (10 : Nat) ^ 20 = 100000000000000000000 := by decide
    omega
  · rintro ⟨a, t⟩ ⟨⟨h1, h1'⟩, h2, h3⟩
    dsimp only at h1 h1' h2 h3 ⊢
    refine Ret.ite (fun hp => ?_) (fun hp => Ret.pure h2)
    have hp := of_decide_eq_true hp
    have h4 : t.length < 20 := by
      rcases Nat.lt_or_ge t.length 20 with h | h
      · exact h
      · rw [show 20 - t.length = 0 by omega, Nat.pow_zero] at h3
        omega
    have e : IntKind.wrap .i64 (Int.tdiv a 10) = a / 10 := by
      rw [Int.tdiv_eq_ediv_of_nonneg h1]
      exact wr ⟨by omega, by omega⟩
    rw [strAdd_le (by simp [bytesOf]; omega), Option.bind_some, e]
    have hpow : (10 : Nat) ^ (20 - t.length) = 10 * 10 ^ (20 - (t.length + 1)) := by
      rw [show 20 - t.length = (20 - (t.length + 1)) + 1 by omega, Nat.pow_succ, Nat.mul_comm]
    refine Ret.pure ⟨⟨⟨by show 0 ≤ a / 10; omega, by show a / 10 ≤ _; omega⟩, by simp [bytesOf]; omega, ?_⟩, by show (a / 10).toNat < a.toNat; omega⟩
    rw [hpow] at h3
    have hl : (bytesOf [IntKind.wrap .u8 (IntKind.wrap .i64 (48 + Int.tmod a 10))] ++ t).length = t.length + 1 := by simp [bytesOf]
    show (a / 10).toNat < 10 ^ (20 - _)
    rw [hl]
    generalize (10 : Nat) ^ (20 - (t.length + 1)) = p at h3 ⊢
    omega
  · show Ret ((strAdd [109] o).bind _) _
    rw [strAdd_le (by simp; omega), Option.bind_some]
    exact Ret.pure trivial
noncomputable def mkT (x : List UInt8) (k : Nat) : List UInt8 × Nat := ((laws_markTextS (k : Int)).getD [], k + 1)
theorem markText_eq (x : List UInt8) {k : Nat} (hk : k ≤ 5000000000000000000) : laws_markTextS (k : Int) = some (mkT x k).1 := by
  obtain ⟨t, ht, _⟩ := markText_ok k hk
  unfold mkT
  rw [ht]; rfl
theorem mkT_le (x : List UInt8) (k : Nat) : (mkT x k).2 ≤ k + 1 := Nat.le_refl _
theorem markTexts_eq (ps : List (List UInt8)) (k : Nat) (h : ps.length ≤ 1048576) (hk : k ≤ 4611686018427387904) : laws_markStringSS ps (k : Int) = some ((mapAcc mkT ps k).1, (((mapAcc mkT ps k).2 : Nat) : Int)) := by
  unfold laws_markStringSS
  rw [markLoop mkT 1 ps k (fun x _ k => mkT_le x k)]
  · rfl
  · intro i hi k' ys hk' hl hg
    (try dsimp only)
    rw [hl, if_pos (lt_dec hi), markText_eq ps[i] (by omega), Option.bind_some, hg, Option.bind_some, wr (x := (k' : Int) + 1) ⟨by omega, by omega⟩, wr_succ (n := ps.length) (by omega) hi]
    rfl
  · intro k' ys hl
    (try dsimp only)
    rw [hl, if_neg (by simp)]
theorem heldTexts_eq (ps : List (List UInt8)) (k : Nat) (h : ps.length ≤ 1048576) (hk : k ≤ 4611686018427387904) : laws_heldStringSS (mapAcc mkT ps k).1 (k : Int) = some (((mapAcc mkT ps k).2 : Nat) : Int) := by
  unfold laws_heldStringSS
  rw [heldLoop mkT 1 ps k (fun x _ k => mkT_le x k)]
  · rfl
  · intro i hi k' hk' hg
    show (if decide ((i : Int) < (List.length _ : Int)) = true then _ else _) = _
    rw [mapAcc_len, if_pos (lt_dec hi), hg, Option.bind_some, markText_eq ps[i] (by omega), Option.bind_some]
    rw [if_neg (by simp), wr (x := (k' : Int) + 1) ⟨by omega, by omega⟩, wr_succ (n := ps.length) (by omega) hi]
    rfl
  · intro k'
    show (if decide ((List.length _ : Int) < (List.length _ : Int)) = true then _ else _) = _
    rw [mapAcc_len, if_neg (by simp)]
theorem mkHL_le {it : List HItem} {pr st : List Int} {tb : List HTab} (h : HouseL it pr st tb) : (mkHouse it pr st tb 1).2 ≤ 4611686018427387904 := by
  obtain ⟨hi, hp, hs, ht⟩ := h
  have b1 := mkIts_le hi 1
  have b2 := mkIs_le pr (mapAcc mkIt it 1).2
  have b3 := mkIs_le st (mapAcc mkI pr (mapAcc mkIt it 1).2).2
  have b4 := mkTbs_le ht (mapAcc mkI st (mapAcc mkI pr (mapAcc mkIt it 1).2).2).2
  have hil := hi.1
  have htl := ht.1
  show (mapAcc mkTb tb _).2 ≤ _
  omega
theorem linesZ_all {h : HH} (hL : HL h) (ls : List (List UInt8)) (hl : ls.length ≤ 1048576) : HL (linesZ h ls).1 ∧ (linesZ h ls).2.length ≤ 1048576 := by
  unfold linesZ
  split
  · rename_i hv
    have ha := linesG_all hL hv.1 ls
    exact ⟨ha.1, by rw [ha.2.2]; exact hl⟩
  · exact ⟨noH_HL, by simp⟩
theorem pl_FnExactHouseLines (it : List HItem) (pr st : List Int) (cash : Int) (tb : List HTab) (h : RHouse it pr st tb) (ls : List (List UInt8)) (ht : RTexts ls) : laws_FnExactHouseLinesS it pr st cash tb ls = some true := by
  unfold laws_FnExactHouseLinesS
  obtain ⟨r, hr, h1⟩ := szHouse_ok cash h
  rw [hr, Option.bind_some]
  rcases h1 with h1 | ⟨h1, h2, hL⟩
  · rw [if_pos (decide_eq_true h1)]
  rw [if_neg (by simp; omega)]
  obtain ⟨r2, hr2, h3⟩ := szTexts_ok ls ⟨h1, h2⟩ ht
  rw [hr2, Option.bind_some]
  rcases h3 with h3 | ⟨h3, h4, hT⟩
  · rw [if_pos (decide_eq_true h3)]
  rw [if_neg (by simp; omega)]
  have hD := linesZ_all (h := (it, pr, st, cash, tb)) hL ls hT.1
  have eI := implLines_eq (h := (it, pr, st, cash, tb)) hL ls hT.2
  have eS := specLines_eq (h := (it, pr, st, cash, tb)) hL ls hT.2
  have m1 := mkHL_le hL
  have m2 := mkHL_le hD.1
  dsimp only at eI eS
  rw [toHouse_id cash hL, toTexts_id ls hT.1]
  simp only [Option.bind_some]
  rw [eS, eI]
  simp only [Option.bind_some]
  generalize linesZ (it, pr, st, cash, tb) ls = z at hD m2 ⊢
  obtain ⟨hDL, hDn⟩ := hD
  rw [eqHouse_self _ hDL, eqTexts_self _ hDn]
  simp only [Option.bind_some, Bool.not_true, Bool.or_self, Bool.false_eq_true, if_false]
  rw [eqHouse_self cash hL, eqTexts_self _ hT.1, markHouse_eq cash hL, markHouse_eq _ hDL]
  simp only [Option.bind_some, Bool.not_true, Bool.false_eq_true, if_false]
  rw [markTexts_eq ls _ hT.1 m1, markTexts_eq z.2 _ hDn m2]
  simp only [Option.bind_some]
  rw [decide_eq_false (show ¬ (((mapAcc mkT ls (mkHouse it pr st tb 1).2).2 : Nat) : Int) < 0 by omega)]
  simp only [Bool.false_eq_true, if_false, Option.bind_some, Bool.or_self]
  rw [heldHouse_eq _ hDL]
  simp only [Option.bind_some]
  rw [heldTexts_eq z.2 _ hDn m2]
  simp only [Option.bind_some]
  rw [if_neg (by simp), if_neg (by simp), if_neg (by simp), if_neg (by simp), if_neg (by simp), if_neg (by simp)]
end Go.Proofs.YtpklpghbkhegnaaGreatDoor

