import Derived.Test.YtkhnponakhabdaaGreatDoorMEq
import Derived.Test.YtkhnponakhabdaaGreatDoorMJr
import Derived.Test.YtkhnponakhabdaaGreatDoorMDo
set_option linter.unusedVariables false
namespace Go.Proofs.YtkhnponakhabdaaGreatDoor
open Go Go.RowKit
def nmT (n : Int) : List UInt8 := Lib.decDigits n.toNat
theorem numberZ {n : Int} (h0 : 0 ≤ n) (h : n < 1000000000) : spec_l1NumberS n = some (nmT n) := by
 have := (numF 199 n.toNat (by omega) (Nat.lt_of_lt_of_le (show n.toNat < 10 ^ 9 by omega) (Nat.pow_le_pow_right (by omega) (by omega))) (by omega)).1
 rw [show ((n.toNat : Nat) : Int) = n by omega] at this
 exact this
theorem itoaZ {n : Int} (h0 : 0 ≤ n) (h : n < 1000000000) : strconv_ItoaS n = some (nmT n) := by
 unfold strconv_ItoaS Lib.itoa nmT
 rw [if_pos (by omega), if_neg (by omega)]
theorem nmT_len {n : Int} (h0 : 0 ≤ n) (h : n < 1000000000) : (nmT n).length ≤ 10 := (numF 9 n.toNat (by omega) (by omega) (by omega)).2
def noneT : List UInt8 := [110, 111, 110, 101]
def listT (l : List Int) : List UInt8 := if l = [] then noneT else Lib.join (l.map nmT) [44]
theorem join_snoc {xs : List (List UInt8)} (h : xs ≠ []) (x sep : List UInt8) : Lib.join (xs ++ [x]) sep = Lib.join xs sep ++ (sep ++ x) := by
 cases xs with
 | nil => exact absurd rfl h
 | cons y ys =>
  rw [List.cons_append, Lib.join_cons, Lib.join_cons]
  simp [Lib.joinTail]
def OkL (l : List Int) : Prop := l.length ≤ 1000 ∧ ∀ x ∈ l, 0 ≤ x ∧ x < 1000000000
theorem join_len {l : List Int} (h : ∀ x ∈ l, 0 ≤ x ∧ x < 1000000000) : ∀ k, k ≤ l.length → (Lib.join ((l.take k).map nmT) [44]).length ≤ 11 * k
 | 0, _ => by simp [Lib.join_nil]
 | k + 1, hk => by
  have hx := h _ (List.getElem_mem (show k < l.length by omega))
  have h1 := nmT_len hx.1 hx.2
  have ih := join_len h k (by omega)
  rw [List.take_succ_eq_append_getElem (by omega), List.map_append]
  cases k with
  | zero =>
   rw [List.take_zero, List.map_nil, List.nil_append, List.map_cons, List.map_nil, Lib.join_one]
   omega
  | succ j =>
   rw [List.map_cons, List.map_nil, join_snoc (List.ne_nil_of_length_pos (by simp; omega))]
   simp only [List.length_append, List.length_cons, List.length_nil]
   omega
theorem specList_eq {l : List Int} (h : OkL l) : spec_l7ListS l = some (listT l) := by
 obtain ⟨hn, h⟩ := h
 unfold spec_l7ListS listT
 by_cases h0 : l = []
 ·subst h0; rfl
 ·have hl : 0 < l.length := List.length_pos_iff.2 h0
  have hx0 := h _ (List.getElem_mem hl)
  rw [if_neg (by simp; exact h0), if_neg h0, show geti l 0 = some l[0] from geti_lt' (k := 0) hl, Option.bind_some, numberZ hx0.1 hx0.2, Option.bind_some,
   loopDet (s := (nmT l[0], (1 : Int))) (fun j => (Lib.join ((l.take (j + 1)).map nmT) [44], ((j + 1 : Nat) : Int))) (l.length - 1) (Lib.join (l.map nmT) [44])]
  ·rfl
  ·have h1 : l.take (0 + 1) = [l[0]] := by rw [List.take_succ_eq_append_getElem hl]; rfl
   (try dsimp only)
   rw [h1, List.map_cons, List.map_nil, Lib.join_one]; rfl
  ·intro j hj
   have hj1 : j + 1 < l.length := by omega
   have hx := h _ (List.getElem_mem hj1)
   have h1 := nmT_len hx.1 hx.2
   have h2 := join_len h (j + 1) (by omega)
   (try dsimp only)
   rw [if_pos (lt_dec hj1), strAdd_le (by show (Lib.join _ _).length + 1 ≤ _; omega), Option.bind_some, geti_lt' hj1, Option.bind_some, numberZ hx.1 hx.2, Option.bind_some, strAdd_le (by rw [List.length_append]; show (Lib.join _ _).length + 1 + _ ≤ _; omega), Option.bind_some, wr_succ (n := l.length) (by omega) hj1,
    List.take_succ_eq_append_getElem hj1, List.map_append, List.map_cons, List.map_nil, join_snoc (List.ne_nil_of_length_pos (by simp; omega)), List.append_assoc]
  ·(try dsimp only)
   rw [show l.length - 1 + 1 = l.length by omega, if_neg (by simp), List.take_length]
theorem implList_eq {l : List Int} (h : OkL l) : impl_listTextS l = some (listT l) := by
 obtain ⟨hn, h⟩ := h
 unfold impl_listTextS listT
 by_cases h0 : l = []
 ·subst h0; rfl
 ·rw [if_neg (by simp; exact h0), if_neg h0, mkO_nat _ (by omega), Option.bind_some,
   loopDet (s := ((0 : Int), List.replicate l.length ([] : List UInt8))) (fun j => ((j : Int), (l.take j).map nmT ++ List.replicate (l.length - j) [])) l.length (l.map nmT)]
  ·have h2 := join_len h l.length (Nat.le_refl _)
   rw [List.take_length] at h2
   rw [Option.bind_some]
   (try dsimp only)
   unfold strings_JoinS
   rw [if_pos ⟨by simp; omega, by omega⟩]; rfl
  ·simp
  ·intro j hj
   have hx := h _ (List.getElem_mem hj)
   (try dsimp only)
   have hlen : j < ((l.take j).map nmT ++ List.replicate (l.length - j) ([] : List UInt8)).length := by simp; omega
   rw [if_pos (lt_dec hj), geti_lt' hj, Option.bind_some, itoaZ hx.1 hx.2, Option.bind_some, geti_lt' hlen, Option.bind_some, wr_succ (n := l.length) (by omega) hj]
   congr 4
   rw [show ((j : Int)).toNat = j from rfl, List.take_succ_eq_append_getElem hj, List.map_append, List.set_append_right _ _ (by simp; omega), List.append_assoc]
   congr 1
   rw [show l.length - j = (l.length - (j + 1)) + 1 by omega, List.replicate_succ]
   simp [show min j l.length = j by omega]
  ·(try dsimp only)
   rw [if_neg (by simp)]
   simp
theorem readNumber5 (w : List UInt8) : impl_readNumberS w 5 = some (if IsNum 5 w then (((val w : Nat) : Int), true) else (0, false)) := readNumber_m (m := 5) (by omega) w
def txOk : List UInt8 := [111, 107]
def txNo : List UInt8 := [110, 111]
def txWhat : List UInt8 := [119, 104, 97, 116]
noncomputable def pairZ (h : HH) (w v : List UInt8) : List UInt8 :=
 if IsNum 5 v ∧ w = [98, 105, 108, 108] then (if billZ h.1 h.2.1 h.2.2.1 h.2.2.2.1 h.2.2.2.2 ((val v : Nat) : Int) < 0 then noneT else nmT (billZ h.1 h.2.1 h.2.2.1 h.2.2.2.1 h.2.2.2.2 ((val v : Nat) : Int)))
 else if IsNum 5 v ∧ w = [102, 114, 101, 101] then listT (free h.1 ((val v : Nat) : Int)) else txWhat
noncomputable def wordsZ (h : HH) : List (List UInt8) → List UInt8
 | [w, v] => pairZ h w v
 | _ => txWhat
noncomputable def answerZ (h : HH) (s : List UInt8) : List UInt8 :=
 if s = [115, 116, 111, 99, 107] then listT h.2.2.1
 else if s = [99, 97, 115, 104] then nmT h.2.2.2.1
 else if s = [116, 97, 98, 108, 101, 115] then nmT (h.2.2.2.2.length : Int)
 else if s = [108, 101, 102, 116] then nmT (leftZ (ticksOf h.2.2.2.2))
 else wordsZ h (pieces 32 s)
def noH : HH := ([], [], [], 0, [])
noncomputable def lineZ (h : HH) (s : List UInt8) : HH × List UInt8 :=
 if hB h = true then
  if (readS s).2 = true then ((stepZ h (readS s).1).1, if (stepZ h (readS s).1).2 then txOk else txNo)
  else if s = [101, 110, 100] then ((goR h (endZ h.1 h.2.1 h.2.2.1 h.2.2.2.1 h.2.2.2.2)).1, txOk)
  else (h, answerZ h s)
 else (noH, [])
theorem endZ_len {h : HH} (hv : hB h = true) : (endZ h.1 h.2.1 h.2.2.1 h.2.2.2.1 h.2.2.2.2).length ≤ 1048576 := by
 unfold endZ
 rw [if_pos (show houseB _ _ _ _ _ = true from hv)]
 have h1 := kit_left (houseB_kit (show houseB _ _ _ _ _ = true from hv))
 have h2 := (houseB_tables (show houseB _ _ _ _ _ = true from hv)).1
 unfold endDeeds
 simp
 omega
section
variable {h : HH}
theorem left_range (hv : hB h = true) : 0 ≤ leftZ (ticksOf h.2.2.2.2) ∧ leftZ (ticksOf h.2.2.2.2) < 1000000000 := by
 have h1 := houseB_kit (show houseB _ _ _ _ _ = true from hv)
 have h2 := kit_left h1
 unfold leftZ
 rw [if_pos h1]
 omega
theorem stock_ok (hv : hB h = true) : OkL h.2.2.1 := by
 obtain ⟨h1, h2⟩ := houseB_stock (show houseB _ _ _ _ _ = true from hv)
 have h3 := itemsB_len (houseB_items (show houseB _ _ _ _ _ = true from hv))
 exact ⟨by omega, fun x hx => by have := h2 x hx; omega⟩
theorem free_ok (hv : hB h = true) (a : Int) : OkL (free h.1 a) := by
 have h3 := itemsB_len (houseB_items (show houseB _ _ _ _ _ = true from hv))
 refine ⟨?_, fun x hx => by have := free_idx hx; omega⟩
 unfold free
 split
 ·have := freeTo_len h.1 a.toNat h.1.length; omega
 ·simp
theorem billZ_top (hv : hB h = true) (p : Int) : billZ h.1 h.2.1 h.2.2.1 h.2.2.2.1 h.2.2.2.2 p < 1000000000 := by
 unfold billZ
 split
 ·have := (billOf_range (show houseB _ _ _ _ _ = true from hv) p.toNat).2; omega
 ·omega
theorem no_space {v : List UInt8} (h : (32 : UInt8) ∈ v) : ¬ IsNum 5 v := fun hn => by
 have := hn.2.1 _ h
 revert this; decide
theorem implAnswer_eq (hL : HL h) (hv : hB h = true) (s : List UInt8) (hs : s.length ≤ 1048576) : impl_answerToS h.1 h.2.1 h.2.2.1 h.2.2.2.1 h.2.2.2.2 s = some (answerZ h s) := by
 have hc := houseB_cash (show houseB _ _ _ _ _ = true from hv)
 have ht := (houseB_tables (show houseB _ _ _ _ _ = true from hv)).1
 have hl := left_range hv
 unfold impl_answerToS answerZ
 by_cases e1 : s = [115, 116, 111, 99, 107]
 ·rw [if_pos (by simpa using e1), if_pos e1, implList_eq (stock_ok hv)]; rfl
 rw [if_neg (by simpa using e1), if_neg e1]
 by_cases e2 : s = [99, 97, 115, 104]
 ·rw [if_pos (by simpa using e2), if_pos e2, itoaZ hc.1 (by omega)]; rfl
 rw [if_neg (by simpa using e2), if_neg e2]
 by_cases e3 : s = [116, 97, 98, 108, 101, 115]
 ·rw [if_pos (by simpa using e3), if_pos e3, itoaZ (by omega) (by omega)]; rfl
 rw [if_neg (by simpa using e3), if_neg e3]
 by_cases e4 : s = [108, 101, 102, 116]
 ·rw [if_pos (by simpa using e4), if_pos e4, implTicks_eq _ hL.2.2.2, Option.bind_some, implLeft_eq hL.2.2.2.ticks, Option.bind_some, itoaZ hl.1 hl.2]; rfl
 rw [if_neg (by simpa using e4), if_neg e4]
 have hcut : strings_CutS s [32] = some (Lib.cut s [32]) := by unfold strings_CutS; rw [if_pos (by omega)]
 rw [hcut, Option.bind_some]
 rcases indexByte_pieces 32 s with ⟨g1, g2⟩ | ⟨i, g1, g2, g3⟩
 ·have hcc : Lib.cut s [32] = (s, [], false) := by
   unfold Lib.cut
   rw [Lib.index_one, g1]; rfl
  rw [hcc, g2, readNumber5, if_neg (fun hn : IsNum 5 [] => by have := hn.1.1; simp at this), Option.bind_some]
  rfl
 ·have hcc : Lib.cut s [32] = (s.take i, s.drop (i + 1), true) := by
   unfold Lib.cut
   rw [Lib.index_one, g1, if_pos (by omega)]; rfl
  rw [hcc, g3]
  (try dsimp only)
  generalize s.take i = w
  generalize s.drop (i + 1) = v
  rw [readNumber5, Option.bind_some]
  by_cases hsp : (32 : UInt8) ∈ v
  ·rw [if_neg (no_space hsp)]
   have hp : wordsZ h (w :: pieces 32 v) = txWhat := by
    rcases indexByte_pieces 32 v with ⟨k1, k2⟩ | ⟨j, k1, k2, k3⟩
    ·exact absurd hsp (pieces_mem (c := 32) (l := v) (by rw [k2]; simp))
    ·rw [k3]
     cases hq : pieces 32 (v.drop (j + 1)) with
     | nil => exact absurd hq (pieces_ne _ _)
     | cons a b => rfl
   rw [hp]; rfl
  ·rw [pieces_none hsp]
   show _ = some (pairZ h w v)
   unfold pairZ
   by_cases hn : IsNum 5 v
   ·rw [if_pos hn]
    (try dsimp only)
    by_cases w1 : w = [98, 105, 108, 108]
    ·rw [if_pos (show IsNum 5 v ∧ w = [98, 105, 108, 108] from ⟨hn, w1⟩), if_pos (by simpa using w1), implBill_eq _ hL, Option.bind_some]
     have hb := billZ_top hv ((val v : Nat) : Int)
     by_cases hneg : billZ h.1 h.2.1 h.2.2.1 h.2.2.2.1 h.2.2.2.2 ((val v : Nat) : Int) < 0
     ·rw [if_pos (decide_eq_true hneg), if_pos hneg]; rfl
     ·rw [if_neg (by simpa using hneg), if_neg hneg, itoaZ (by omega) hb]; rfl
    ·rw [if_neg (fun hh : IsNum 5 v ∧ w = [98, 105, 108, 108] => w1 hh.2), if_neg (by simpa using w1)]
     by_cases w2 : w = [102, 114, 101, 101]
     ·rw [if_pos (show IsNum 5 v ∧ w = [102, 114, 101, 101] from ⟨hn, w2⟩), if_pos (by simpa using w2), implFree_eq hL.1, Option.bind_some, implList_eq (free_ok hv _)]; rfl
     ·rw [if_neg (fun hh : IsNum 5 v ∧ w = [102, 114, 101, 101] => w2 hh.2), if_neg (by simpa using w2)]; rfl
   ·rw [if_neg hn, if_neg (fun hh : IsNum 5 v ∧ w = [98, 105, 108, 108] => hn hh.1), if_neg (fun hh : IsNum 5 v ∧ w = [102, 114, 101, 101] => hn hh.1)]; rfl
theorem implLine_eq (hL : HL h) (s : List UInt8) (hs : s.length ≤ 1048576) : impl_HouseLineS h.1 h.2.1 h.2.2.1 h.2.2.2.1 h.2.2.2.2 s = some (lineZ h s) := by
 unfold impl_HouseLineS lineZ
 rw [implHouse_eq _ hL, Option.bind_some]
 by_cases hv : hB h = true
 ·have hv' : houseB h.1 h.2.1 h.2.2.1 h.2.2.2.1 h.2.2.2.2 = true := hv
  rw [hv', if_neg (by simp), if_pos hv, implRead_eq _ hs, Option.bind_some]
  by_cases hr : (readS s).2 = true
  ·rw [if_pos hr, if_pos hr, implDo_eq hL, Option.bind_some]
   show (if (!(stepZ h (readS s).1).2) = true then _ else _) = _
   cases hd : (stepZ h (readS s).1).2 <;> rfl
  ·rw [if_neg hr, if_neg hr]
   by_cases e : s = [101, 110, 100]
   ·rw [if_pos (by simpa using e), if_pos e, implEnd_eq _ hL, Option.bind_some, implRun_eq hL _ (endZ_len hv)]; rfl
   ·rw [if_neg (by simpa using e), if_neg e, implCopyH_id _ hL, Option.bind_some, implAnswer_eq hL hv s hs]; rfl
 ·have hv' : ¬ houseB h.1 h.2.1 h.2.2.1 h.2.2.2.1 h.2.2.2.2 = true := hv
  rw [if_pos (by simpa using hv'), if_neg hv]; rfl
theorem rd_nonneg (v : List UInt8) : decide (rd v ≥ 0) = decide (IsNum 5 v) := by
 unfold rd
 by_cases h : IsNum 5 v
 ·rw [if_pos h, decide_eq_true h]; exact decide_eq_true (by omega)
 ·rw [if_neg h, decide_eq_false h]; rfl
theorem specLine_eq (hL : HL h) (s : List UInt8) (hs : s.length ≤ 1048576) : spec_HouseLineS h.1 h.2.1 h.2.2.1 h.2.2.2.1 h.2.2.2.2 s = some (lineZ h s) := by
 unfold spec_HouseLineS lineZ
 rw [specHouse_eq _ hL, Option.bind_some]
 by_cases hv : hB h = true
 ·have hv' : houseB h.1 h.2.1 h.2.2.1 h.2.2.2.1 h.2.2.2.2 = true := hv
  have hc := houseB_cash hv'
  have ht := (houseB_tables hv').1
  have hl := left_range hv
  have hcut := cut_eq s 32 hs
  rw [show ((((32 : UInt8)).toNat : Nat) : Int) = 32 from rfl] at hcut
  have hb : ((if ((List.length (pieces 32 s) : Int) == 2) = true then ((geti (pieces 32 s) (IntKind.wrap .i64 ((List.length (pieces 32 s) : Int) - 1))).bind fun x53 => ((spec_l1ReadS x53).bind fun x59 => some (decide (x59 ≥ 0)))) else some false) : Option Bool) = some (match pieces 32 s with | [_, v] => decide (IsNum 5 v) | _ => false) := by
   generalize pieces 32 s = ps
   match ps with
   | [] => rfl
   | [_] => rfl
   | [w, v] =>
    rw [if_pos (by rfl), show IntKind.wrap .i64 ((List.length [w, v] : Int) - 1) = 1 from wr (x := 1) ⟨by omega, by omega⟩, show geti [w, v] 1 = some v from rfl, Option.bind_some, read_eq, Option.bind_some]
    exact congrArg some (rd_nonneg v)
   | _ :: _ :: _ :: l =>
    rw [if_neg (by simp; omega)]
  rw [hv', if_neg (by simp), if_pos hv, specRead_eq _ hs, Option.bind_some, hcut, Option.bind_some, specCopyH_id _ hL, Option.bind_some, hb, Option.bind_some]
  by_cases hr : (readS s).2 = true
  ·rw [if_pos hr, if_pos hr, specDo_eq hL, Option.bind_some]
   show (if (!(stepZ h (readS s).1).2) = true then _ else _) = _
   cases hd : (stepZ h (readS s).1).2 <;> rfl
  ·rw [if_neg hr, if_neg hr]
   by_cases e : s = [101, 110, 100]
   ·rw [if_pos (by simpa using e), if_pos e, specEnd_eq _ hL, Option.bind_some, specRun_eq hL _ (endZ_len hv)]; rfl
   ·rw [if_neg (by simpa using e), if_neg e]
    unfold answerZ
    by_cases e1 : s = [115, 116, 111, 99, 107]
    ·rw [if_pos (by simpa using e1), if_pos e1, specList_eq (stock_ok hv)]; rfl
    rw [if_neg (by simpa using e1), if_neg e1]
    by_cases e2 : s = [99, 97, 115, 104]
    ·rw [if_pos (by simpa using e2), if_pos e2, numberZ hc.1 (by omega)]; rfl
    rw [if_neg (by simpa using e2), if_neg e2]
    by_cases e3 : s = [116, 97, 98, 108, 101, 115]
    ·rw [if_pos (by simpa using e3), if_pos e3, numberZ (by omega) (by omega)]; rfl
    rw [if_neg (by simpa using e3), if_neg e3]
    by_cases e4 : s = [108, 101, 102, 116]
    ·rw [if_pos (by simpa using e4), if_pos e4, specTicks_eq _ hL.2.2.2, Option.bind_some, specLeft_eq hL.2.2.2.ticks, Option.bind_some, numberZ hl.1 hl.2]; rfl
    rw [if_neg (by simpa using e4), if_neg e4]
    have hne := pieces_ne 32 s
    generalize pieces 32 s = ps at hne ⊢
    match ps with
    | [] => exact absurd rfl hne
    | [w] =>
     show ((geti [w] 0).bind _) = _
     rw [show geti [w] 0 = some w from rfl]
     simp [wordsZ, txWhat]
    | _ :: _ :: _ :: l =>
     simp [wordsZ, txWhat, geti]
    | [w, v] =>
     show _ = some (h, pairZ h w v)
     unfold pairZ
     rw [show geti [w, v] 0 = some w from rfl, show geti [w, v] 1 = some v from rfl]
     simp only [Option.bind_some]
     by_cases hn : IsNum 5 v
     ·rw [read_eq, if_pos hn]
      simp only [Option.bind_some, decide_eq_true hn, Bool.and_true, hn, true_and]
      by_cases w1 : w = [98, 105, 108, 108]
      ·have hb2 := billZ_top hv ((val v : Nat) : Int)
       rw [if_pos (by simpa using w1), specBill_eq _ hL, if_pos w1]
       simp only [Option.bind_some]
       by_cases hneg : billZ h.1 h.2.1 h.2.2.1 h.2.2.2.1 h.2.2.2.2 ((val v : Nat) : Int) < 0
       ·rw [if_pos (decide_eq_true hneg), if_pos hneg]; rfl
       ·rw [if_neg (by simpa using hneg), if_neg hneg, if_pos (by simpa using w1), numberZ (by omega) hb2]; rfl
      ·rw [if_neg (by simpa using w1), Option.bind_some, if_neg (by simp), if_neg (by simpa using w1), if_neg w1]
       by_cases w2 : w = [102, 114, 101, 101]
       ·rw [if_pos (by simpa using w2), if_pos w2, specFree_eq hL.1, Option.bind_some, specList_eq (free_ok hv _)]; rfl
       ·rw [if_neg (by simpa using w2), if_neg w2]; rfl
     ·simp [hn, txWhat]
 ·have hv' : ¬ houseB h.1 h.2.1 h.2.2.1 h.2.2.2.1 h.2.2.2.2 = true := hv
  rw [if_pos (by simpa using hv'), if_neg hv]; rfl
end
end Go.Proofs.YtkhnponakhabdaaGreatDoor
set_option linter.unusedVariables false
namespace Go.Proofs.YtkhnponakhabdaaGreatDoor
open Go Go.RowKit
theorem noH_HL : HL noH := ⟨⟨by simp [noH], fun x hx => by cases hx⟩, by simp [noH], by simp [noH], by simp [noH], fun x hx => by cases hx⟩
theorem lineZ_HL {h : HH} (hL : HL h) (s : List UInt8) : HL (lineZ h s).1 := by
 unfold lineZ
 split
 ·split
  ·exact stepZ_L hL _
  ·split
   ·exact goR_L hL _
   ·exact hL
 ·exact noH_HL
theorem lineZ_hB {h : HH} (hL : HL h) (hv : hB h = true) (s : List UInt8) : hB (lineZ h s).1 = true := by
 unfold lineZ
 rw [if_pos hv]
 split
 ·exact (stepZ_cases hv (readS s).1).1
 ·split
  ·show hB (goR h _).1 = true
   unfold goR
   rw [if_pos hv]
   exact (goZ_all hL hv _).2.1
  ·exact hv
noncomputable def gline (s : HH × List (List UInt8)) (l : List UInt8) : HH × List (List UInt8) := ((lineZ s.1 l).1, s.2 ++ [(lineZ s.1 l).2])
noncomputable def linesG (ls : List (List UInt8)) (h : HH) : HH × List (List UInt8) := ls.foldl gline (h, [])
noncomputable def linesZ (h : HH) (ls : List (List UInt8)) : HH × List (List UInt8) := if hB h = true ∧ ls.length ≤ 40 then linesG ls h else (noH, [])
theorem linesG_succ (ls : List (List UInt8)) (h : HH) {k : Nat} (hk : k < ls.length) : linesG (ls.take (k + 1)) h = gline (linesG (ls.take k) h) ls[k] := by
 unfold linesG
 rw [List.take_succ_eq_append_getElem hk, List.foldl_append]; rfl
theorem linesG_all {h : HH} (hL : HL h) (hv : hB h = true) (ls : List (List UInt8)) : HL (linesG ls h).1 ∧ hB (linesG ls h).1 = true ∧ (linesG ls h).2.length = ls.length := by
 have key : ∀ (ls : List (List UInt8)) (s : HH × List (List UInt8)), HL s.1 → hB s.1 = true → HL (ls.foldl gline s).1 ∧ hB (ls.foldl gline s).1 = true ∧ (ls.foldl gline s).2.length = s.2.length + ls.length := by
  intro ls
  induction ls with
  | nil => intro s h1 h2; exact ⟨h1, h2, rfl⟩
  | cons l ls ih =>
   intro s h1 h2
   have := ih (gline s l) (lineZ_HL h1 l) (lineZ_hB h1 h2 l)
   refine ⟨this.1, this.2.1, this.2.2.trans ?_⟩
   show (s.2 ++ [(lineZ s.1 l).2]).length + ls.length = s.2.length + (ls.length + 1)
   simp; omega
 simpa [linesG] using key ls (h, []) hL hv
theorem linesG_app (xs ys : List (List UInt8)) (h : HH) : linesG (xs ++ ys) h = ((linesG ys (linesG xs h).1).1, (linesG xs h).2 ++ (linesG ys (linesG xs h).1).2) := by
 have key : ∀ (ys : List (List UInt8)) (s : HH) (a : List (List UInt8)), ys.foldl gline (s, a) = ((ys.foldl gline (s, [])).1, a ++ (ys.foldl gline (s, [])).2) := by
  intro ys
  induction ys with
  | nil => intro s a; simp
  | cons l ls ih =>
   intro s a
   have e1 : (l :: ls).foldl gline (s, a) = ls.foldl gline ((lineZ s l).1, a ++ [(lineZ s l).2]) := rfl
   have e2 : (l :: ls).foldl gline (s, []) = ls.foldl gline ((lineZ s l).1, [(lineZ s l).2]) := rfl
   rw [e1, e2, ih, ih (lineZ s l).1 [(lineZ s l).2]]
   simp
 unfold linesG
 rw [List.foldl_append]
 exact key ys _ _
section
variable {h : HH}
theorem implLines_eq (hL : HL h) (ls : List (List UInt8)) (hs : ∀ l ∈ ls, l.length ≤ 1048576) : impl_HouseLinesS h.1 h.2.1 h.2.2.1 h.2.2.2.1 h.2.2.2.2 ls = some (linesZ h ls) := by
 unfold impl_HouseLinesS linesZ
 rw [implHouse_eq _ hL, Option.bind_some]
 by_cases hv : hB h = true ∧ ls.length ≤ 40
 ·obtain ⟨hv, h40⟩ := hv
  rw [if_neg (by rw [show houseB _ _ _ _ _ = true from hv]; simp; omega), if_pos ⟨hv, h40⟩, implCopyH_id _ hL, Option.bind_some, mkO_nat _ (by omega), Option.bind_some,
   loopDet (s := ((0 : Int), h.1, h.2.1, h.2.2.1, h.2.2.2.1, h.2.2.2.2, List.replicate ls.length ([] : List UInt8))) (fun k => ((k : Int), (linesG (ls.take k) h).1.1, (linesG (ls.take k) h).1.2.1, (linesG (ls.take k) h).1.2.2.1, (linesG (ls.take k) h).1.2.2.2.1, (linesG (ls.take k) h).1.2.2.2.2, (linesG (ls.take k) h).2 ++ List.replicate (ls.length - k) [])) ls.length
    ((linesG ls h).1.1, (linesG ls h).1.2.1, (linesG ls h).1.2.2.1, (linesG ls h).1.2.2.2.1, (linesG ls h).1.2.2.2.2, (linesG ls h).2) rfl]
  ·rfl
  ·intro k hk
   have ha := linesG_all hL hv (ls.take k)
   have hl2 : (linesG (ls.take k) h).2.length = k := by rw [ha.2.2]; simp; omega
   (try dsimp only)
   have hlen : k < ((linesG (ls.take k) h).2 ++ List.replicate (ls.length - k) ([] : List UInt8)).length := by simp; omega
   rw [if_pos (lt_dec hk), geti_lt' hk, Option.bind_some, implLine_eq ha.1 _ (hs _ (List.getElem_mem hk)), Option.bind_some, geti_lt' hlen, Option.bind_some, wr_succ (n := ls.length) (by omega) hk, linesG_succ ls h hk]
   unfold gline
   have hset : ((linesG (ls.take k) h).2 ++ List.replicate (ls.length - k) ([] : List UInt8)).set ((k : Int)).toNat (lineZ (linesG (ls.take k) h).1 ls[k]).2 = (linesG (ls.take k) h).2 ++ [(lineZ (linesG (ls.take k) h).1 ls[k]).2] ++ List.replicate (ls.length - (k + 1)) [] := by
    rw [show ((k : Int)).toNat = k from rfl, List.set_append_right _ _ (by omega), hl2, show ls.length - k = (ls.length - (k + 1)) + 1 by omega, List.replicate_succ]
    simp
   rw [hset]
  ·(try dsimp only)
   rw [if_neg (by simp), List.take_length]
   simp
 ·rw [if_pos (by
   by_cases h1 : hB h = true
   ·have : ¬ ls.length ≤ 40 := fun h2 => hv ⟨h1, h2⟩
    simp; omega
   ·have h2 : houseB h.1 h.2.1 h.2.2.1 h.2.2.2.1 h.2.2.2.2 = false := by simpa [hB] using h1
    rw [h2]; rfl), if_neg hv]; rfl
theorem specLines_eq (hL : HL h) (ls : List (List UInt8)) (hs : ∀ l ∈ ls, l.length ≤ 1048576) : spec_HouseLinesS h.1 h.2.1 h.2.2.1 h.2.2.2.1 h.2.2.2.2 ls = some (linesZ h ls) := by
 unfold spec_HouseLinesS linesZ
 rw [specHouse_eq _ hL, Option.bind_some]
 by_cases hv : hB h = true ∧ ls.length ≤ 40
 ·obtain ⟨hv, h40⟩ := hv
  rw [if_neg (by rw [show houseB _ _ _ _ _ = true from hv]; simp; omega), if_pos ⟨hv, h40⟩, specCopyH_id _ hL, Option.bind_some,
   loopDet (s := (([] : List (List UInt8)), (0 : Int), h.1, h.2.1, h.2.2.1, h.2.2.2.1, h.2.2.2.2)) (fun k => ((linesG (ls.take k) h).2, (k : Int), (linesG (ls.take k) h).1.1, (linesG (ls.take k) h).1.2.1, (linesG (ls.take k) h).1.2.2.1, (linesG (ls.take k) h).1.2.2.2.1, (linesG (ls.take k) h).1.2.2.2.2)) ls.length
    ((linesG ls h).2, (linesG ls h).1.1, (linesG ls h).1.2.1, (linesG ls h).1.2.2.1, (linesG ls h).1.2.2.2.1, (linesG ls h).1.2.2.2.2) rfl]
  ·rfl
  ·intro k hk
   have ha := linesG_all hL hv (ls.take k)
   have hl2 : (linesG (ls.take k) h).2.length = k := by rw [ha.2.2]; simp; omega
   (try dsimp only)
   rw [if_pos (lt_dec hk), geti_lt' hk, Option.bind_some, specLine_eq ha.1 _ (hs _ (List.getElem_mem hk)), Option.bind_some, appO_le (by simp; omega), Option.bind_some, wr_succ (n := ls.length) (by omega) hk, linesG_succ ls h hk]
   rfl
  ·(try dsimp only)
   rw [if_neg (by simp), List.take_length]
 ·rw [if_pos (by
   by_cases h1 : hB h = true
   ·have : ¬ ls.length ≤ 40 := fun h2 => hv ⟨h1, h2⟩
    simp; omega
   ·have h2 : houseB h.1 h.2.1 h.2.2.1 h.2.2.2.1 h.2.2.2.2 = false := by simpa [hB] using h1
    rw [h2]; rfl), if_neg hv]; rfl
end
end Go.Proofs.YtkhnponakhabdaaGreatDoor
set_option linter.unusedVariables false
namespace Go.Proofs.YtkhnponakhabdaaGreatDoor
open Go Go.RowKit
theorem texts_ret {L : List (List UInt8)} {k : Int} (h0 : 0 ≤ k) (h1 : k < (L.length : Int)) (hL : ∀ t ∈ L, t.length ≤ 20) : Ret (geti L k) (fun t => t.length ≤ 20) := by
 obtain ⟨n, rfl, hn⟩ := in_nat ⟨h0, h1⟩
 rw [geti_lt' hn]
 exact Ret.pure (hL _ (List.getElem_mem hn))
theorem kindText_le (k a b c : Int) : (kindText k a b c).length ≤ 20 := by
 unfold kindText
 split
 ·rename_i hk
  obtain ⟨i, rfl, hi⟩ := in_nat (n := 6) ⟨hk.1, by omega⟩
  obtain ⟨nm, m, h1, h2, h3, h4, h5⟩ := kind_facts hi
  rw [show ((i : Int)).toNat = i from rfl, geti_getD' h1 (d := []), geti_getD' h2 (d := 0)]
  unfold deedText
  split
  ·rename_i hd
   have := textTo_len (nm := nm) (L := [a, b, c]) (k := m) (fun i hi => (hd i (by omega)).1)
   rw [show ((m : Int)).toNat = m from rfl]
   omega
  ·simp
 ·simp
theorem line_ret {b : List Int} {p : Int} (hb : By b) (h0 : 0 ≤ p) (h1 : p ≤ 10000) (it : List HItem) (pr st : List Int) (cash : Int) (tb : List HTab) : Ret (spec_l20LineS b p it pr st cash tb) (fun r => p ≤ r.1 ∧ r.1 ≤ p + 20 ∧ r.2.length ≤ 1000) := by
 unfold spec_l20LineS
 refine Ret.bind (pick_ret hb h0 (by omega)) (fun r hr => ?_)
 obtain ⟨q1, q2, q3⟩ := hr
 refine Ret.ite (fun _ => ?_) (fun _ => Ret.ite (fun _ => ?_) (fun _ => Ret.ite (fun _ => ?_) (fun _ => ?_)))
 ·refine Ret.bind (pick_ret hb (by omega) (by omega)) (fun r2 hr2 => ?_)
  obtain ⟨g1, g2, g3⟩ := hr2
  refine Ret.bind (texts_ret g2 (g3 (by omega)) (by decide)) (fun t ht => Ret.pure ⟨by show p ≤ r2.1; omega, by show r2.1 ≤ p + 20; omega, by show t.length ≤ 1000; omega⟩)
 ·refine Ret.bind (pick_ret hb (by omega) (by omega)) (fun r2 hr2 => ?_)
  obtain ⟨g1, g2, g3⟩ := hr2
  refine Ret.bind (texts_ret g2 (g3 (by omega)) (by decide)) (fun t ht => Ret.pure ⟨by show p ≤ r2.1; omega, by show r2.1 ≤ p + 20; omega, by show t.length ≤ 1000; omega⟩)
 ·refine Ret.bind (pick_ret hb (by omega) (by omega)) (fun r2 hr2 => ?_)
  obtain ⟨g1, g2, g3⟩ := hr2
  refine Ret.bind (texts_ret g2 (g3 (by omega)) (by decide)) (fun t ht => ?_)
  refine Ret.bind (pick_ret hb (by omega) (by omega)) (fun r3 hr3 => ?_)
  obtain ⟨k1, k2, k3⟩ := hr3
  have hk := k3 (by omega)
  have hn := nmT_len k2 (by omega : r3.2 < 1000000000)
  rw [numberZ k2 (by omega), Option.bind_some, strAdd_le (by omega), Option.bind_some]
  exact Ret.pure ⟨by show p ≤ r3.1; omega, by show r3.1 ≤ p + 20; omega, by simp; omega⟩
 ·refine Ret.bind (deed_ret hb (by omega) (by omega) it pr st cash tb) (fun r7 hr7 => ?_)
  rw [specDeed_eq, Option.bind_some]
  have := kindText_le r7.2.1 r7.2.2.1 r7.2.2.2.1 r7.2.2.2.2
  exact Ret.pure ⟨by have := hr7.1; show p ≤ r7.1; omega, by have := hr7.2; show r7.1 ≤ p + 20; omega, by show (kindText _ _ _ _).length ≤ 1000; omega⟩
end Go.Proofs.YtkhnponakhabdaaGreatDoor
set_option linter.unusedVariables false
namespace Go.Proofs.YtkhnponakhabdaaGreatDoor
open Go Go.RowKit
theorem same_me3 {it : List HItem} {pr st : List Int} {cash : Int} {tb : List HTab} (h : HouseL it pr st tb) : laws_sameHouseS it pr st cash tb it pr st cash tb = some true := by
 rw [sameHouse_eq h, sameHB_true.2 ⟨rfl, rfl, rfl, rfl, rfl⟩]
theorem sameTexts_self (xs : List (List UInt8)) (h : xs.length ≤ 1000000) : laws_sameTextsS xs xs = some true := by
 unfold laws_sameTextsS
 rw [if_neg (by simp), loopEq xs xs rfl]
 ·rw [if_pos rfl]; rfl
 ·intro k hk hy
  (try dsimp only)
  rw [if_pos (lt_dec hk), geti_lt' hk, Option.bind_some, Option.bind_some, wr_succ (n := xs.length) (by omega) hk, if_neg (by simp), if_pos rfl]
 ·(try dsimp only)
  rw [if_neg (by simp)]
theorem dec_ne (n : Nat) : Lib.decDigits n ≠ [] := (dec_num n n (Nat.le_refl _)).1
theorem nmT_ne (n : Int) : nmT n ≠ [] := dec_ne _
theorem listT_ne (l : List Int) : listT l ≠ [] := by
 unfold listT
 cases l with
 | nil => simp [noneT]
 | cons x xs =>
  rw [if_neg (by simp), List.map_cons, Lib.join_cons]
  intro h
  exact nmT_ne x (List.append_eq_nil_iff.1 h).1
theorem answer_ne (h : HH) (s : List UInt8) : answerZ h s ≠ [] := by
 have hw : ∀ ps, wordsZ h ps ≠ [] := by
  intro ps
  match ps with
  | [] => simp [wordsZ, txWhat]
  | [_] => simp [wordsZ, txWhat]
  | _ :: _ :: _ :: _ => simp [wordsZ, txWhat]
  | [w, v] =>
   show pairZ h w v ≠ []
   unfold pairZ
   split
   ·split
    ·simp [noneT]
    ·exact nmT_ne _
   ·split
    ·exact listT_ne _
    ·simp [txWhat]
 unfold answerZ
 split
 ·exact listT_ne _
 ·split
  ·exact nmT_ne _
  ·split
   ·exact nmT_ne _
   ·split
    ·exact nmT_ne _
    ·exact hw _
theorem lineZ_ne {h : HH} (hv : hB h = true) (s : List UInt8) : (lineZ h s).2 ≠ [] := by
 unfold lineZ
 rw [if_pos hv]
 split
 ·dsimp only
  split <;> simp [txOk, txNo]
 ·split
  ·simp [txOk]
  ·exact answer_ne h s
theorem linesG_ne {h : HH} (hL : HL h) (hv : hB h = true) (ls : List (List UInt8)) : ∀ k, k ≤ ls.length → ∀ a ∈ (linesG (ls.take k) h).2, a ≠ []
 | 0, _ => fun a ha => by cases ha
 | k + 1, hk => fun a ha => by
  rw [linesG_succ ls h (by omega)] at ha
  rcases List.mem_append.1 ha with ha | ha
  ·exact linesG_ne hL hv ls k (by omega) a ha
  ·rw [List.mem_singleton.1 ha]; exact lineZ_ne (linesG_all hL hv (ls.take k)).2.1 _
theorem hdOf_end : hdOf [101, 110, 100] = [101, 110, 100] := by decide
theorem names_end : ∀ k, k < 6 → nameAt k ≠ [101, 110, 100] := by decide
theorem read_end : readS [101, 110, 100] = ((0, 0, 0, 0), false) := read_false fun k hk hf => names_end k hk (by rw [← hf.1.1, hdOf_end])
def roomOf : List HTab → Int
 | [] => 0
 | t :: ts => (t.2.2.length : Int) * 20 + roomOf ts
theorem room_app : ∀ a b : List HTab, roomOf (a ++ b) = roomOf a + roomOf b
 | [], b => by simp [roomOf]
 | t :: ts, b => by
  show (t.2.2.length : Int) * 20 + roomOf (ts ++ b) = _
  rw [room_app ts b]
  show _ = (t.2.2.length : Int) * 20 + roomOf ts + roomOf b
  omega
theorem room_range {it : List HItem} : ∀ ts : List HTab, (∀ t ∈ ts, tableB it t = true) → 0 ≤ roomOf ts ∧ roomOf ts ≤ 120 * ts.length
 | [], _ => by simp [roomOf]
 | t :: ts, ht => by
  have ih := room_range ts fun u hu => ht u (by simp [hu])
  have h1 := tableB_true.1 (ht t (by simp))
  have h6 := ticket_len h1.2.1
  show 0 ≤ (t.2.2.length : Int) * 20 + roomOf ts ∧ (t.2.2.length : Int) * 20 + roomOf ts ≤ 120 * ((ts.length + 1 : Nat) : Int)
  omega
theorem price_range {pr : List Int} (h : ∀ x ∈ pr, 0 ≤ x ∧ x ≤ 20) (t : HTab) (k : Nat) : 0 ≤ priceAt pr t k ∧ priceAt pr t k ≤ 20 := by
 unfold priceAt
 split
 ·exact getD_range h _
 ·decide
theorem owedTo_le {pr : List Int} (h : ∀ x ∈ pr, 0 ≤ x ∧ x ≤ 20) (t : HTab) : ∀ k : Nat, owedTo pr t k ≤ 20 * k
 | 0 => by unfold owedTo; omega
 | k + 1 => by
  have ih := owedTo_le h t k
  show owedTo pr t k + (if stateAt t k != 4 then priceAt pr t k else 0) ≤ _
  have hp := price_range h t k
  split <;> omega
theorem oweds_room {pr : List Int} (h : ∀ x ∈ pr, 0 ≤ x ∧ x ≤ 20) : ∀ ts : List HTab, owedsOf pr ts ≤ roomOf ts
 | [] => by simp [owedsOf, roomOf]
 | t :: ts => by
  have ih := oweds_room h ts
  have h2 := owedTo_le h t t.2.2.length
  show owedT pr t + owedsOf pr ts ≤ (t.2.2.length : Int) * 20 + roomOf ts
  unfold owedT
  omega
theorem end_tables {h : HH} (hL : HL h) (hv : hB h = true) (hr : h.2.2.2.1 + roomOf h.2.2.2.2 ≤ 99999) : (lineZ h [101, 110, 100]).1.2.2.2.2 = [] := by
 obtain ⟨it, pr, st, cash, tb⟩ := h
 have hv' : houseB it pr st cash tb = true := hv
 have hp := (houseB_prices hv').2
 have ho := oweds_room hp tb
 replace hr : cash + roomOf tb ≤ 99999 := hr
 unfold lineZ
 rw [if_pos hv, read_end, if_neg (by simp), if_pos rfl]
 have he : endZ it pr st cash tb = endDeeds tb := by unfold endZ; rw [if_pos hv']
 show (goR (it, pr, st, cash, tb) (endZ it pr st cash tb)).1.2.2.2.2 = []
 unfold goR
 rw [if_pos hv, he, end_run hv' (by omega)]
theorem linesD_ret {b : List Int} {p : Int} (hb : By b) (h0 : 0 ≤ p) (h1 : p ≤ 5000) (it : List HItem) (pr st : List Int) (cash : Int) (tb : List HTab) {β : Type} {Q : β → Prop} {f : List (List UInt8) × Int → Option β}
  (hf : ∀ o : List (List UInt8) × Int, (o.1.length ≤ 10 ∧ (∀ l ∈ o.1, l.length ≤ 1000) ∧ p ≤ o.2 ∧ o.2 ≤ p + 300) → Ret (f o) Q) (k0 : Int) (hk0 : 0 ≤ k0 ∧ k0 ≤ 9) :
  Ret ((loop (σ := (List (List UInt8)) × Int × Int) (ρ := ((List (List UInt8)) × Int)) (fun (s : (List (List UInt8)) × Int × Int) => match s with | (s39, s40, s41) => (if (decide (s40 > 0)) then ((spec_l20LineS b s41 it pr st cash tb).bind fun x43 => ((appO s39 ([x43.2])).bind fun x54 => (some (.inl (x54, IntKind.wrap .i64 (s40 - 1), x43.1))))) else (some (.inr (s39, s41))))) ([], k0, p)).bind f) Q := by
 refine Ret.loopb (fun s => 0 ≤ s.2.1 ∧ s.2.1 ≤ 9 ∧ (s.1.length : Int) + s.2.1 ≤ 9 ∧ p ≤ s.2.2 ∧ s.2.2 ≤ p + 20 * (9 - s.2.1) ∧ ∀ l ∈ s.1, l.length ≤ 1000) (fun s => s.2.1.toNat) (fun o => o.1.length ≤ 10 ∧ (∀ l ∈ o.1, l.length ≤ 1000) ∧ p ≤ o.2 ∧ o.2 ≤ p + 300) ⟨hk0.1, hk0.2, by show ((0 : Nat) : Int) + k0 ≤ 9; omega, by show p ≤ p; omega, by show p ≤ p + 20 * (9 - k0); omega, fun l hl => by cases hl⟩ ?_ (fun o ho => hf o ho)
 rintro ⟨out, k, q⟩ ⟨d1, d2, d3, d4, d5, d6⟩
 dsimp only at d1 d2 d3 d4 d5 d6 ⊢
 refine Ret.ite (fun h => ?_) (fun h => Ret.pure ⟨by show out.length ≤ 10; omega, d6, d4, by show q ≤ p + 300; omega⟩)
 have hk := of_decide_eq_true h
 refine Ret.bind (line_ret hb (by omega) (by omega) it pr st cash tb) (fun r hr => ?_)
 rw [appO_le (by simp; omega), Option.bind_some, wr (x := k - 1) ⟨by omega, by omega⟩]
 refine Ret.pure ⟨⟨by show 0 ≤ k - 1; omega, by show k - 1 ≤ 9; omega, by simp; omega, by have := hr.1; show p ≤ r.1; omega, by have := hr.2.1; show r.1 ≤ p + 20 * (9 - (k - 1)); omega, ?_⟩, by show (k - 1).toNat < k.toNat; omega⟩
 intro l hl
 rcases List.mem_append.1 hl with hl | hl
 ·exact d6 l hl
 ·rw [List.mem_singleton.1 hl]; exact hr.2.2
theorem pl_FnHouseLines (x : List Int) (hw : ∀ n ∈ x, InK .u8 n) : laws_FnHouseLinesS x = some true := by
 unfold laws_FnHouseLinesS
 by_cases hl : (x.length : Int) > 1048576
 ·rw [if_pos (by simp; omega)]
 rw [if_neg (by simp; omega)]
 obtain ⟨⟨h, ls⟩, hd, hs, hls, hll⟩ : ∃ r : HH × List (List UInt8), spec_DrawHouseLinesS x = some r ∧ SmallH 100 r.1 ∧ r.2.length ≤ 100 ∧ ∀ l ∈ r.2, l.length ≤ 1000 := by
  unfold spec_DrawHouseLinesS
  refine Ret.bind (open_spec x (u8_of hw)) (fun r hr => ?_)
  refine Ret.bind (house_ret hr.1 (by omega) (by omega)) (fun h hh => ?_)
  refine Ret.bind (pick_ret hr.1 (by omega) (by omega)) (fun k hk => ?_)
  obtain ⟨k1, k2, k3⟩ := hk
  have k4 := k3 (by omega)
  refine linesD_ret hr.1 (by omega) (by omega) _ _ _ _ _ (fun o ho => ?_) _ ⟨k2, by omega⟩
  obtain ⟨o1, o2, o3, o4⟩ := ho
  (try dsimp only)
  refine Ret.bind (odd_ret hr.1 (by omega) (by omega)) (fun d hd => ?_)
  refine Ret.bind (Q := fun l : List (List UInt8) => l.length ≤ 100 ∧ ∀ t ∈ l, t.length ≤ 1000) (Ret.ite (fun _ => ?_) (fun _ => Ret.pure ⟨by omega, o2⟩)) (fun l hl => Ret.pure ⟨hh.2.2, hl⟩)
  rw [show mkO ([] : List UInt8) 41 = some (List.replicate 41 []) from mkO_nat [] (n := 41) (by omega), Option.bind_some]
  exact Ret.pure ⟨by simp, fun t ht => by rw [List.eq_of_mem_replicate ht]; simp⟩
 have hL : HL h := hs.1
 replace hls : ls.length ≤ 100 := hls
 replace hll : ∀ l ∈ ls, l.length ≤ 1048576 := fun l hl => by have := hll l hl; omega
 rw [hd, Option.bind_some]
 dsimp only
 rw [implLines_eq hL ls hll, Option.bind_some, specLines_eq hL ls hll, Option.bind_some]
 by_cases hv : hB h = true ∧ ls.length ≤ 40
 ·obtain ⟨hv, h40⟩ := hv
  have hz : linesZ h ls = linesG ls h := by unfold linesZ; rw [if_pos ⟨hv, h40⟩]
  have ha := linesG_all hL hv ls
  rw [hz, same_me3 ha.1, Option.bind_some, if_neg (by simp), sameTexts_self _ (by omega), Option.bind_some, Option.bind_some, if_neg (by simp), specHouse_eq _ hL, Option.bind_some, show houseB _ _ _ _ _ = true from hv, if_neg (by simp; omega)]
  have hh : IntKind.wrap .i64 (Int.tdiv (ls.length : Int) 2) = ((ls.length / 2 : Nat) : Int) := by
   rw [show Int.tdiv (ls.length : Int) 2 = ((ls.length / 2 : Nat) : Int) from by rw [Int.tdiv_eq_ediv_of_nonneg (by omega)]; rfl]
   exact wr ⟨by omega, by omega⟩
  have hs1 : subO ls 0 ((ls.length / 2 : Nat) : Int) = some (ls.take (ls.length / 2)) := by
   unfold subO
   rw [if_pos (by simp; omega)]; rfl
  have hs2 : subO ls ((ls.length / 2 : Nat) : Int) (ls.length : Int) = some (ls.drop (ls.length / 2)) := by
   unfold subO
   rw [if_pos (by simp; omega)]
   show some ((ls.take ls.length).drop (ls.length / 2)) = _
   rw [List.take_of_length_le (Nat.le_refl _)]
  have ha1 := linesG_all hL hv (ls.take (ls.length / 2))
  have e3 := implLines_eq hL (ls.take (ls.length / 2)) fun l hl => hll l (List.mem_of_mem_take hl)
  have e4 := implLines_eq ha1.1 (ls.drop (ls.length / 2)) fun l hl => hll l (List.mem_of_mem_drop hl)
  have z3 : linesZ h (ls.take (ls.length / 2)) = linesG (ls.take (ls.length / 2)) h := by unfold linesZ; rw [if_pos ⟨hv, by simp; omega⟩]
  have z4 : linesZ (linesG (ls.take (ls.length / 2)) h).1 (ls.drop (ls.length / 2)) = linesG (ls.drop (ls.length / 2)) (linesG (ls.take (ls.length / 2)) h).1 := by unfold linesZ; rw [if_pos ⟨ha1.2.1, by simp; omega⟩]
  rw [z3] at e3
  rw [z4] at e4
  have happ := linesG_app (ls.take (ls.length / 2)) (ls.drop (ls.length / 2)) h
  rw [List.take_append_drop] at happ
  rw [hh, hs1, Option.bind_some, e3, Option.bind_some, hs2, Option.bind_some, e4, Option.bind_some]
  have hne := linesG_ne hL hv ls ls.length (Nat.le_refl _)
  rw [List.take_length] at hne
  have hn40 : (linesG ls h).2.length ≤ 40 := by omega
  have q1 : (linesG (ls.drop (ls.length / 2)) (linesG (ls.take (ls.length / 2)) h).1).1 = (linesG ls h).1 := by rw [happ]
  have q2 : (linesG (ls.take (ls.length / 2)) h).2 ++ (linesG (ls.drop (ls.length / 2)) (linesG (ls.take (ls.length / 2)) h).1).2 = (linesG ls h).2 := by rw [happ]
  have q3 : (linesG (ls.take (ls.length / 2)) h).2.length ≤ 40 := by rw [ha1.2.2]; simp; omega
  have q4 : (linesG (ls.drop (ls.length / 2)) (linesG (ls.take (ls.length / 2)) h).1).2.length ≤ 40 := by rw [← q2] at hn40; simp at hn40; omega
  rw [q1]
  generalize linesG (ls.take (ls.length / 2)) h = fst at q2 q3 q4 ⊢
  generalize (linesG (ls.drop (ls.length / 2)) fst.1).2 = snd at q2 q4 ⊢
  generalize linesG ls h = z at ha hne hn40 q2 ⊢
  obtain ⟨x2, zs⟩ := z
  obtain ⟨hxL, hxB, hxn⟩ := ha
  dsimp only at hne hn40 q2 hxn hxL hxB ⊢
  rw [loopDet (s := (0 : Int)) (fun k => (k : Int)) zs.length (.inl ()) rfl]
  ·rw [Option.bind_some]
   (try dsimp only)
   have htb := houseB_tables (show houseB _ _ _ _ _ = true from hxB)
   have hcs := houseB_cash (show houseB _ _ _ _ _ = true from hxB)
   rw [loopDet (s := (x2.2.2.2.1, (0 : Int))) (fun k => (x2.2.2.2.1 + roomOf (x2.2.2.2.2.take k), (k : Int))) x2.2.2.2.2.length (x2.2.2.2.1 + roomOf x2.2.2.2.2) (by simp [roomOf])]
   ·rw [Option.bind_some]
    (try dsimp only)
    rw [implLine_eq hxL [101, 110, 100] (by simp), Option.bind_some, same_me3 hxL, Option.bind_some, if_pos rfl, appO_le (by simp; omega), List.nil_append, Option.bind_some, appO_le (by omega), Option.bind_some, q2, sameTexts_self _ (by omega), Option.bind_some, Option.bind_some, hxn]
    by_cases hroom : x2.2.2.2.1 + roomOf x2.2.2.2.2 > 99999
    ·rw [decide_eq_true hroom]; simp
    ·rw [end_tables hxL hxB (by omega)]; simp
   ·intro k hk
    have hr := room_range (x2.2.2.2.2.take k) fun t ht => htb.2 t (List.mem_of_mem_take ht)
    have hlen : (x2.2.2.2.2.take k).length ≤ 4 := by simp; omega
    have h1 := tableB_true.1 (htb.2 _ (List.getElem_mem hk))
    have h6 := ticket_len h1.2.1
    (try dsimp only)
    rw [if_pos (lt_dec hk), geti_lt' hk, Option.bind_some, wr_succ (n := x2.2.2.2.2.length) (by omega) hk, wr (x := (x2.2.2.2.2[k].2.2.length : Int) * 20) ⟨by omega, by omega⟩, wr ⟨by omega, by omega⟩, List.take_succ_eq_append_getElem hk, room_app]
    simp only [roomOf, Int.add_zero, Int.add_assoc]
   ·(try dsimp only)
    rw [if_neg (by simp), List.take_length]
  ·intro k hk
   (try dsimp only)
   rw [if_pos (lt_dec hk), geti_lt' hk, Option.bind_some, if_neg (by simpa using hne _ (List.getElem_mem hk)), wr_succ (n := zs.length) (by omega) hk]
  ·(try dsimp only)
   rw [if_neg (by simp)]
 ·have hz : linesZ h ls = (noH, []) := by unfold linesZ; rw [if_neg hv]
  rw [hz, same_me3 noH_HL, Option.bind_some, if_neg (by simp), sameTexts_self _ (by simp), Option.bind_some, Option.bind_some, if_neg (by simp), specHouse_eq _ hL, Option.bind_some]
  have hc : ((!houseB h.1 h.2.1 h.2.2.1 h.2.2.2.1 h.2.2.2.2) || decide ((ls.length : Int) > 40)) = true := by
   by_cases h1 : hB h = true
   ·have : ¬ ls.length ≤ 40 := fun h2 => hv ⟨h1, h2⟩
    simp; omega
   ·have h2 : houseB h.1 h.2.1 h.2.2.1 h.2.2.2.1 h.2.2.2.2 = false := by simpa [hB] using h1
    rw [h2]; rfl
  rw [if_pos hc, if_pos (by rfl)]
  unfold laws_noHouseS
  have hn := same_me3 (cash := 0) noH_HL
  show (((laws_sameHouseS noH.1 noH.2.1 noH.2.2.1 0 noH.2.2.2.2 noH.1 noH.2.1 noH.2.2.1 0 noH.2.2.2.2).bind _).bind _).bind _ = _
  rw [hn]; rfl
end Go.Proofs.YtkhnponakhabdaaGreatDoor
