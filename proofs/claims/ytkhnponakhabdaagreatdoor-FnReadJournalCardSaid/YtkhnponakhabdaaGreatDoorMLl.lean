import Derived.Test.YtkhnponakhabdaaGreatDoorMEq
import Derived.Test.YtkhnponakhabdaaGreatDoorMJr
import Derived.Test.YtkhnponakhabdaaGreatDoorMDo
set_option linter.unusedVariables false
namespace Go.Proofs.YtkhnponakhabdaaGreatDoor
open Go Go.RowKit
def nmT (n : Int) : List UInt8 := Lib.decDigits n.toNat
theorem itoaZ {n : Int} (h0 : 0 ≤ n) (h : n < 1000000000) : strconv_ItoaS n = some (nmT n) := by
 unfold strconv_ItoaS Lib.itoa nmT
 rw [if_pos (by omega), if_neg (by omega)]
theorem nmT_len {n : Int} (h0 : 0 ≤ n) (h : n < 1000000000) : (nmT n).length ≤ 10 := (numF 9 n.toNat (by omega) (by omega) (by omega)).2
def noneT : List UInt8 := [110, 111, 110, 101]
def listT (l : List Int) : List UInt8 := if l = [] then noneT else Lib.join (l.map nmT) [44]
theorem join_snoc {xs : List (List UInt8)} (h : xs ≠ []) (x sep : List UInt8) : Lib.join (xs ++ [x]) sep = Lib.join xs sep ++ (sep ++ x) := by
 cases xs with
 | nil => exact absurd rfl h
 | cons y ys =>
  rw [List.cons_append, Lib.join_cons, Lib.join_cons]
  simp [Lib.joinTail]
def OkL (l : List Int) : Prop := l.length ≤ 1000 ∧ ∀ x ∈ l, 0 ≤ x ∧ x < 1000000000
theorem join_len {l : List Int} (h : ∀ x ∈ l, 0 ≤ x ∧ x < 1000000000) : ∀ k, k ≤ l.length → (Lib.join ((l.take k).map nmT) [44]).length ≤ 11 * k
 | 0, _ => by simp [Lib.join_nil]
 | k + 1, hk => by
  have hx := h _ (List.getElem_mem (show k < l.length by omega))
  have h1 := nmT_len hx.1 hx.2
  have ih := join_len h k (by omega)
  rw [List.take_succ_eq_append_getElem (by omega), List.map_append]
  cases k with
  | zero =>
   rw [List.take_zero, List.map_nil, List.nil_append, List.map_cons, List.map_nil, Lib.join_one]
   omega
  | succ j =>
   rw [List.map_cons, List.map_nil, join_snoc (List.ne_nil_of_length_pos (by simp; omega))]
   simp only [List.length_append, List.length_cons, List.length_nil]
   omega
theorem implList_eq {l : List Int} (h : OkL l) : impl_listTextS l = some (listT l) := by
 obtain ⟨hn, h⟩ := h
 unfold impl_listTextS listT
 by_cases h0 : l = []
 ·subst h0; rfl
 ·rw [if_neg (by simp; exact h0), if_neg h0, mkO_nat _ (by omega), Option.bind_some,
   loopDet (s := ((0 : Int), List.replicate l.length ([] : List UInt8))) (fun j => ((j : Int), (l.take j).map nmT ++ List.replicate (l.length - j) [])) l.length (l.map nmT)]
  ·have h2 := join_len h l.length (Nat.le_refl _)
   rw [List.take_length] at h2
   rw [Option.bind_some]
   (try dsimp only)
   unfold strings_JoinS
   rw [if_pos ⟨by simp; omega, by omega⟩]; rfl
  ·simp
  ·intro j hj
   have hx := h _ (List.getElem_mem hj)
   (try dsimp only)
   have hlen : j < ((l.take j).map nmT ++ List.replicate (l.length - j) ([] : List UInt8)).length := by simp; omega
   rw [if_pos (lt_dec hj), geti_lt' hj, Option.bind_some, itoaZ hx.1 hx.2, Option.bind_some, geti_lt' hlen, Option.bind_some, wr_succ (n := l.length) (by omega) hj]
   congr 4
   rw [show ((j : Int)).toNat = j from rfl, List.take_succ_eq_append_getElem hj, List.map_append, List.set_append_right _ _ (by simp; omega), List.append_assoc]
   congr 1
   rw [show l.length - j = (l.length - (j + 1)) + 1 by omega, List.replicate_succ]
   simp [show min j l.length = j by omega]
  ·(try dsimp only)
   rw [if_neg (by simp)]
   simp
theorem readNumber5 (w : List UInt8) : impl_readNumberS w 5 = some (if IsNum 5 w then (((val w : Nat) : Int), true) else (0, false)) := readNumber_m (m := 5) (by omega) w
def txOk : List UInt8 := [111, 107]
def txNo : List UInt8 := [110, 111]
def txWhat : List UInt8 := [119, 104, 97, 116]
noncomputable def pairZ (h : HH) (w v : List UInt8) : List UInt8 :=
 if IsNum 5 v ∧ w = [98, 105, 108, 108] then (if billZ h.1 h.2.1 h.2.2.1 h.2.2.2.1 h.2.2.2.2 ((val v : Nat) : Int) < 0 then noneT else nmT (billZ h.1 h.2.1 h.2.2.1 h.2.2.2.1 h.2.2.2.2 ((val v : Nat) : Int)))
 else if IsNum 5 v ∧ w = [102, 114, 101, 101] then listT (free h.1 ((val v : Nat) : Int)) else txWhat
noncomputable def wordsZ (h : HH) : List (List UInt8) → List UInt8
 | [w, v] => pairZ h w v
 | _ => txWhat
noncomputable def answerZ (h : HH) (s : List UInt8) : List UInt8 :=
 if s = [115, 116, 111, 99, 107] then listT h.2.2.1
 else if s = [99, 97, 115, 104] then nmT h.2.2.2.1
 else if s = [116, 97, 98, 108, 101, 115] then nmT (h.2.2.2.2.length : Int)
 else if s = [108, 101, 102, 116] then nmT (leftZ (ticksOf h.2.2.2.2))
 else wordsZ h (pieces 32 s)
def noH : HH := ([], [], [], 0, [])
noncomputable def lineZ (h : HH) (s : List UInt8) : HH × List UInt8 :=
 if hB h = true then
  if (readS s).2 = true then ((stepZ h (readS s).1).1, if (stepZ h (readS s).1).2 then txOk else txNo)
  else if s = [101, 110, 100] then ((goR h (endZ h.1 h.2.1 h.2.2.1 h.2.2.2.1 h.2.2.2.2)).1, txOk)
  else (h, answerZ h s)
 else (noH, [])
theorem endZ_len {h : HH} (hv : hB h = true) : (endZ h.1 h.2.1 h.2.2.1 h.2.2.2.1 h.2.2.2.2).length ≤ 1048576 := by
 unfold endZ
 rw [if_pos (show houseB _ _ _ _ _ = true from hv)]
 have h1 := kit_left (houseB_kit (show houseB _ _ _ _ _ = true from hv))
 have h2 := (houseB_tables (show houseB _ _ _ _ _ = true from hv)).1
 unfold endDeeds
 simp
 omega
section
variable {h : HH}
theorem left_range (hv : hB h = true) : 0 ≤ leftZ (ticksOf h.2.2.2.2) ∧ leftZ (ticksOf h.2.2.2.2) < 1000000000 := by
 have h1 := houseB_kit (show houseB _ _ _ _ _ = true from hv)
 have h2 := kit_left h1
 unfold leftZ
 rw [if_pos h1]
 omega
theorem stock_ok (hv : hB h = true) : OkL h.2.2.1 := by
 obtain ⟨h1, h2⟩ := houseB_stock (show houseB _ _ _ _ _ = true from hv)
 have h3 := itemsB_len (houseB_items (show houseB _ _ _ _ _ = true from hv))
 exact ⟨by omega, fun x hx => by have := h2 x hx; omega⟩
theorem free_ok (hv : hB h = true) (a : Int) : OkL (free h.1 a) := by
 have h3 := itemsB_len (houseB_items (show houseB _ _ _ _ _ = true from hv))
 refine ⟨?_, fun x hx => by have := free_idx hx; omega⟩
 unfold free
 split
 ·have := freeTo_len h.1 a.toNat h.1.length; omega
 ·simp
theorem billZ_top (hv : hB h = true) (p : Int) : billZ h.1 h.2.1 h.2.2.1 h.2.2.2.1 h.2.2.2.2 p < 1000000000 := by
 unfold billZ
 split
 ·have := (billOf_range (show houseB _ _ _ _ _ = true from hv) p.toNat).2; omega
 ·omega
theorem no_space {v : List UInt8} (h : (32 : UInt8) ∈ v) : ¬ IsNum 5 v := fun hn => by
 have := hn.2.1 _ h
 revert this; decide
theorem implAnswer_eq (hL : HL h) (hv : hB h = true) (s : List UInt8) (hs : s.length ≤ 1048576) : impl_answerToS h.1 h.2.1 h.2.2.1 h.2.2.2.1 h.2.2.2.2 s = some (answerZ h s) := by
 have hc := houseB_cash (show houseB _ _ _ _ _ = true from hv)
 have ht := (houseB_tables (show houseB _ _ _ _ _ = true from hv)).1
 have hl := left_range hv
 unfold impl_answerToS answerZ
 by_cases e1 : s = [115, 116, 111, 99, 107]
 ·rw [if_pos (by simpa using e1), if_pos e1, implList_eq (stock_ok hv)]; rfl
 rw [if_neg (by simpa using e1), if_neg e1]
 by_cases e2 : s = [99, 97, 115, 104]
 ·rw [if_pos (by simpa using e2), if_pos e2, itoaZ hc.1 (by omega)]; rfl
 rw [if_neg (by simpa using e2), if_neg e2]
 by_cases e3 : s = [116, 97, 98, 108, 101, 115]
 ·rw [if_pos (by simpa using e3), if_pos e3, itoaZ (by omega) (by omega)]; rfl
 rw [if_neg (by simpa using e3), if_neg e3]
 by_cases e4 : s = [108, 101, 102, 116]
 ·rw [if_pos (by simpa using e4), if_pos e4, implTicks_eq _ hL.2.2.2, Option.bind_some, implLeft_eq hL.2.2.2.ticks, Option.bind_some, itoaZ hl.1 hl.2]; rfl
 rw [if_neg (by simpa using e4), if_neg e4]
 have hcut : strings_CutS s [32] = some (Lib.cut s [32]) := by unfold strings_CutS; rw [if_pos (by omega)]
 rw [hcut, Option.bind_some]
 rcases indexByte_pieces 32 s with ⟨g1, g2⟩ | ⟨i, g1, g2, g3⟩
 ·have hcc : Lib.cut s [32] = (s, [], false) := by
   unfold Lib.cut
   rw [Lib.index_one, g1]; rfl
  rw [hcc, g2, readNumber5, if_neg (fun hn : IsNum 5 [] => by have := hn.1.1; simp at this), Option.bind_some]
  rfl
 ·have hcc : Lib.cut s [32] = (s.take i, s.drop (i + 1), true) := by
   unfold Lib.cut
   rw [Lib.index_one, g1, if_pos (by omega)]; rfl
  rw [hcc, g3]
  (try dsimp only)
  generalize s.take i = w
  generalize s.drop (i + 1) = v
  rw [readNumber5, Option.bind_some]
  by_cases hsp : (32 : UInt8) ∈ v
  ·rw [if_neg (no_space hsp)]
   have hp : wordsZ h (w :: pieces 32 v) = txWhat := by
    rcases indexByte_pieces 32 v with ⟨k1, k2⟩ | ⟨j, k1, k2, k3⟩
    ·exact absurd hsp (pieces_mem (c := 32) (l := v) (by rw [k2]; simp))
    ·rw [k3]
     cases hq : pieces 32 (v.drop (j + 1)) with
     | nil => exact absurd hq (pieces_ne _ _)
     | cons a b => rfl
   rw [hp]; rfl
  ·rw [pieces_none hsp]
   show _ = some (pairZ h w v)
   unfold pairZ
   by_cases hn : IsNum 5 v
   ·rw [if_pos hn]
    (try dsimp only)
    by_cases w1 : w = [98, 105, 108, 108]
    ·rw [if_pos (show IsNum 5 v ∧ w = [98, 105, 108, 108] from ⟨hn, w1⟩), if_pos (by simpa using w1), implBill_eq _ hL, Option.bind_some]
     have hb := billZ_top hv ((val v : Nat) : Int)
     by_cases hneg : billZ h.1 h.2.1 h.2.2.1 h.2.2.2.1 h.2.2.2.2 ((val v : Nat) : Int) < 0
     ·rw [if_pos (decide_eq_true hneg), if_pos hneg]; rfl
     ·rw [if_neg (by simpa using hneg), if_neg hneg, itoaZ (by omega) hb]; rfl
    ·rw [if_neg (fun hh : IsNum 5 v ∧ w = [98, 105, 108, 108] => w1 hh.2), if_neg (by simpa using w1)]
     by_cases w2 : w = [102, 114, 101, 101]
     ·rw [if_pos (show IsNum 5 v ∧ w = [102, 114, 101, 101] from ⟨hn, w2⟩), if_pos (by simpa using w2), implFree_eq hL.1, Option.bind_some, implList_eq (free_ok hv _)]; rfl
     ·rw [if_neg (fun hh : IsNum 5 v ∧ w = [102, 114, 101, 101] => w2 hh.2), if_neg (by simpa using w2)]; rfl
   ·rw [if_neg hn, if_neg (fun hh : IsNum 5 v ∧ w = [98, 105, 108, 108] => hn hh.1), if_neg (fun hh : IsNum 5 v ∧ w = [102, 114, 101, 101] => hn hh.1)]; rfl
theorem implLine_eq (hL : HL h) (s : List UInt8) (hs : s.length ≤ 1048576) : impl_HouseLineS h.1 h.2.1 h.2.2.1 h.2.2.2.1 h.2.2.2.2 s = some (lineZ h s) := by
 unfold impl_HouseLineS lineZ
 rw [implHouse_eq _ hL, Option.bind_some]
 by_cases hv : hB h = true
 ·have hv' : houseB h.1 h.2.1 h.2.2.1 h.2.2.2.1 h.2.2.2.2 = true := hv
  rw [hv', if_neg (by simp), if_pos hv, implRead_eq _ hs, Option.bind_some]
  by_cases hr : (readS s).2 = true
  ·rw [if_pos hr, if_pos hr, implDo_eq hL, Option.bind_some]
   show (if (!(stepZ h (readS s).1).2) = true then _ else _) = _
   cases hd : (stepZ h (readS s).1).2 <;> rfl
  ·rw [if_neg hr, if_neg hr]
   by_cases e : s = [101, 110, 100]
   ·rw [if_pos (by simpa using e), if_pos e, implEnd_eq _ hL, Option.bind_some, implRun_eq hL _ (endZ_len hv)]; rfl
   ·rw [if_neg (by simpa using e), if_neg e, implCopyH_id _ hL, Option.bind_some, implAnswer_eq hL hv s hs]; rfl
 ·have hv' : ¬ houseB h.1 h.2.1 h.2.2.1 h.2.2.2.1 h.2.2.2.2 = true := hv
  rw [if_pos (by simpa using hv'), if_neg hv]; rfl
end
end Go.Proofs.YtkhnponakhabdaaGreatDoor
