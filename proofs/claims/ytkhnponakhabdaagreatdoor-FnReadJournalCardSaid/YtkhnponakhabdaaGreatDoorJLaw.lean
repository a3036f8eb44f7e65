/- FnReadJournal: what is read off a part of a journal is a part of what is read off it; a deed's line does what the deed does. Own work; no program in sight. -/
import Derived.Test.YtkhnponakhabdaaGreatDoorTDraw
import Derived.Test.YtkhnponakhabdaaGreatDoorMLl
import Derived.Test.YtkhnponakhabdaaGreatDoorMEq
set_option linter.unusedVariables false
namespace Go.Proofs.YtkhnponakhabdaaGreatDoor
open Go Go.RowKit
theorem pieces_take (c : UInt8) : ∀ (s : List UInt8) (i : Nat), ∃ t, pieces c (s.take i) = (pieces c s).take ((pieces c (s.take i)).length - 1) ++ [t] ∧ (pieces c (s.take i)).length ≤ (pieces c s).length
 | [], i => ⟨[], by simp [pieces]⟩
 | b :: l, 0 => ⟨[], by
  have h := List.length_pos_iff.2 (pieces_ne c (b :: l))
  rw [List.take_zero]
  refine ⟨rfl, ?_⟩
  show 1 ≤ _
  omega⟩
 | b :: l, i + 1 => by
  obtain ⟨t, h1, h2⟩ := pieces_take c l i
  rw [List.take_succ_cons, pieces_eq, pieces_eq]
  have hq := pieces_ne c (l.take i)
  have hp := pieces_ne c l
  generalize pieces c (l.take i) = Q at h1 h2 hq ⊢
  generalize pieces c l = P at h1 h2 hp ⊢
  have hn := List.length_pos_iff.2 hq
  by_cases hb : b = c
  ·rw [if_pos hb, if_pos hb]
   refine ⟨t, ?_, by simpa using h2⟩
   rw [show ([] :: Q).length - 1 = (Q.length - 1) + 1 by simp; omega, List.take_succ_cons, List.cons_append, ← h1]
  ·rw [if_neg hb, if_neg hb]
   cases P with
   | nil => exact absurd rfl hp
   | cons p P' =>
    cases hm : Q.length - 1 with
    | zero =>
     rw [hm, List.take_zero, List.nil_append] at h1
     subst h1
     exact ⟨b :: t, rfl, by simp⟩
    | succ m =>
     rw [hm, List.take_succ_cons, List.cons_append] at h1
     refine ⟨t, ?_, ?_⟩
     ·rw [h1]
      have hl : (P'.take m).length = m := by rw [List.length_take]; simp only [List.length_cons] at h2; omega
      show (b :: p) :: (P'.take m ++ [t]) = ((b :: p) :: P').take (((b :: p) :: (P'.take m ++ [t])).length - 1) ++ [t]
      rw [show ((b :: p) :: (P'.take m ++ [t])).length - 1 = m + 1 by simp only [List.length_cons, List.length_append, hl, List.length_nil]; omega, List.take_succ_cons, List.cons_append]
     ·rw [h1] at h2 ⊢
      simpa using h2
def RJd : List (List UInt8) → List HDeed × Nat
 | [] => ([], 0)
 | l :: ls => if (readS l).2 then ((readS l).1 :: (RJd ls).1, l.length + 1 + (RJd ls).2) else ([], 0)
theorem RJ_snoc : ∀ (ls : List (List UInt8)) (t : List UInt8), RJ (ls ++ [t]) = RJd ls
 | [], _ => rfl
 | l :: ls, t => by rw [List.cons_append, RJ_cons (by simp), RJ_snoc ls t]; rfl
theorem RJd_take : ∀ (ls : List (List UInt8)) (n : Nat), (RJd (ls.take n)).1.length ≤ (RJd ls).1.length ∧ (RJd (ls.take n)).1 = (RJd ls).1.take (RJd (ls.take n)).1.length
 | [], n => by simp [RJd]
 | l :: ls, 0 => by simp [RJd]
 | l :: ls, n + 1 => by
  obtain ⟨h1, h2⟩ := RJd_take ls n
  rw [List.take_succ_cons]
  unfold RJd
  by_cases hr : (readS l).2 = true
  ·rw [if_pos hr, if_pos hr]
   refine ⟨by simpa using h1, ?_⟩
   show (readS l).1 :: (RJd (ls.take n)).1 = ((readS l).1 :: (RJd ls).1).take ((RJd (ls.take n)).1.length + 1)
   rw [List.take_succ_cons, ← h2]
  ·rw [if_neg hr, if_neg hr]
   simp
theorem joinC (l : List UInt8) {ls : List (List UInt8)} (h : ls ≠ []) : joinW 10 (l :: ls) = l ++ 10 :: joinW 10 ls := by
 cases ls with
 | nil => exact absurd rfl h
 | cons a b => exact joinW_cons 10 l a b
theorem RJd_flat : ∀ (ls : List (List UInt8)) (t : List UInt8), (RJd ls).2 ≤ (joinW 10 (ls ++ [t])).length ∧ flatT (RJd ls).1 = (joinW 10 (ls ++ [t])).take (RJd ls).2 ∧ ∀ d ∈ (RJd ls).1, dText d ≠ []
 | [], t => by simp [RJd, flatT]
 | l :: ls, t => by
  obtain ⟨h1, h2, h3⟩ := RJd_flat ls t
  unfold RJd
  by_cases hr : (readS l).2 = true
  ·rw [if_pos hr]
   have ht := text_read hr
   have hd : dText (readS l).1 = l := ht.1
   rw [List.cons_append, joinC l (by simp)]
   refine ⟨?_, ?_, ?_⟩
   ·simp only [List.length_append, List.length_cons]; omega
   ·show dText (readS l).1 ++ 10 :: flatT (RJd ls).1 = _
    rw [hd, h2, show l.length + 1 + (RJd ls).2 = l.length + (1 + (RJd ls).2) by omega, List.take_length_add_append, Nat.add_comm 1, List.take_succ_cons]
   ·intro d hd'
    rcases List.mem_cons.1 hd' with rfl | hd'
    ·rw [hd]; exact ht.2
    ·exact h3 d hd'
  ·rw [if_neg hr]
   exact ⟨Nat.zero_le _, by simp [flatT], fun d hd => by cases hd⟩
theorem journal_pre (s : List UInt8) : ∃ t, pieces 10 s = (pieces 10 s).take ((pieces 10 s).length - 1) ++ [t] := by
 obtain ⟨t, h, _⟩ := pieces_take 10 s s.length
 rw [List.take_length] at h
 exact ⟨t, h⟩
theorem journal_flat (s : List UInt8) : ∃ n : Nat, (journal s).2 = (n : Int) ∧ n ≤ s.length ∧ flatT (journal s).1 = s.take n ∧ ∀ d ∈ (journal s).1, dText d ≠ [] := by
 obtain ⟨t, h⟩ := journal_pre s
 have hj := join_pieces 10 s
 have hf := RJd_flat ((pieces 10 s).take ((pieces 10 s).length - 1)) t
 rw [← h, hj, ← RJ_snoc _ t, ← h] at hf
 exact ⟨(RJ (pieces 10 s)).2, rfl, hf⟩
theorem journal_take (s : List UInt8) (i : Nat) : (journal (s.take i)).1.length ≤ (journal s).1.length ∧ (journal (s.take i)).1 = (journal s).1.take (journal (s.take i)).1.length := by
 obtain ⟨t, h⟩ := journal_pre s
 obtain ⟨u, h1, h2⟩ := pieces_take 10 s i
 have hk := RJd_take ((pieces 10 s).take ((pieces 10 s).length - 1)) ((pieces 10 (s.take i)).length - 1)
 rw [List.take_take, show min ((pieces 10 (s.take i)).length - 1) ((pieces 10 s).length - 1) = (pieces 10 (s.take i)).length - 1 by omega, ← RJ_snoc _ u, ← h1, ← RJ_snoc _ t, ← h] at hk
 exact hk
theorem journal_len (s : List UInt8) : (journal s).1.length ≤ s.length + 1 := by
 have h1 := RJ_len (pieces 10 s)
 have h2 := pieces_length 10 s
 show (RJ (pieces 10 s)).1.length ≤ _
 omega
noncomputable def lstep (s : HH × Nat) (d : HDeed) : HH × Nat := ((stepZ s.1 d).1, if dText d ≠ [] ∧ (stepZ s.1 d).2 = true then s.2 + 1 else s.2)
noncomputable def lgo (xs : List HDeed) (h : HH) : HH × Nat := xs.foldl lstep (h, 0)
theorem lgo_succ (xs : List HDeed) (h : HH) {k : Nat} (hk : k < xs.length) : lgo (xs.take (k + 1)) h = lstep (lgo (xs.take k) h) xs[k] := by
 unfold lgo
 rw [List.take_succ_eq_append_getElem hk, List.foldl_append]; rfl
theorem lgo_goZ (xs : List HDeed) (h : HH) : (lgo xs h).1 = (goZ xs h).1 ∧ (lgo xs h).2 ≤ (goZ xs h).2 := by
 have key : ∀ (xs : List HDeed) (s t : HH × Nat), s.1 = t.1 → s.2 ≤ t.2 → (xs.foldl lstep s).1 = (xs.foldl gstep t).1 ∧ (xs.foldl lstep s).2 ≤ (xs.foldl gstep t).2 := by
  intro xs
  induction xs with
  | nil => intro s t h1 h2; exact ⟨h1, h2⟩
  | cons d ds ih =>
   intro s t h1 h2
   refine ih (lstep s d) (gstep t d) ?_ ?_
   ·show (stepZ s.1 d).1 = (stepZ t.1 d).1
    rw [h1]
   ·show (if dText d ≠ [] ∧ (stepZ s.1 d).2 = true then s.2 + 1 else s.2) ≤ (if (stepZ t.1 d).2 = true then t.2 + 1 else t.2)
    rw [h1]
    by_cases hd : (stepZ t.1 d).2 = true
    ·rw [if_pos hd]; split <;> omega
    ·rw [if_neg hd, if_neg (fun h => hd h.2)]; exact h2
 exact key xs (h, 0) (h, 0) rfl (Nat.le_refl _)
theorem lgo_len (xs : List HDeed) (h : HH) : (lgo xs h).2 ≤ xs.length := by
 have key : ∀ (xs : List HDeed) (s : HH × Nat), (xs.foldl lstep s).2 ≤ s.2 + xs.length := by
  intro xs
  induction xs with
  | nil => intro s; exact Nat.le_refl _
  | cons d ds ih =>
   intro s
   have h1 := ih (lstep s d)
   have h2 : (lstep s d).2 ≤ s.2 + 1 := by
    show (if dText d ≠ [] ∧ (stepZ s.1 d).2 = true then s.2 + 1 else s.2) ≤ _
    split <;> omega
   show (ds.foldl lstep (lstep s d)).2 ≤ s.2 + (ds.length + 1)
   omega
 have := key xs (h, 0)
 show (xs.foldl lstep (h, 0)).2 ≤ _
 simpa using this
theorem line_deed {h : HH} (hv : hB h = true) {d : HDeed} (hd : dText d ≠ []) : lineZ h (dText d) = ((stepZ h d).1, if (stepZ h d).2 then txOk else txNo) := by
 have hr : readS (dText d) = (d, true) := read_text hd
 unfold lineZ
 rw [if_pos hv, hr, if_pos rfl]
theorem readDraw_ret {x : List Int} (hw : ∀ n ∈ x, InK .u8 n) : Ret (spec_DrawReadJournalS x) (fun s => s.length ≤ 1000) := by
 unfold spec_DrawReadJournalS
 refine Ret.bind (open_spec x (u8_of hw)) (fun r hr => ?_)
 refine Ret.bind (written_ret hr.1 (by omega) (by omega)) (fun h hh => ?_)
 have h14 := hh.2.2
 rw [specJText_eq _ (by omega), Option.bind_some]
 have hl : (jText h.2.2).length ≤ 300 := by
  have := flatT_len h.2.2
  rcases jText_cases h.2.2 with ⟨h1, _⟩ | ⟨h1, _⟩
  ·rw [h1]; simp
  ·rw [h1]; omega
 generalize jText h.2.2 = z at hl ⊢
 refine Ret.bind (pick_ret hr.1 (by omega) (by omega)) (fun o ho => ?_)
 refine Ret.ite (fun _ => ?_) (fun _ => ?_)
 ·exact Ret.bind (spoil_ret hr.1 (by omega) (by omega) (by omega)) (fun y hy => Ret.pure (by have := hy.2.2; omega))
 ·refine Ret.ite (fun _ => ?_) (fun _ => Ret.pure (by omega))
  rw [wr (x := (z.length : Int) + 1) ⟨by omega, by omega⟩]
  refine Ret.bind (pick_ret hr.1 (by omega) (by omega)) (fun q hq => ?_)
  have hq2 := hq.2.2 (by omega)
  obtain ⟨t, ht, htl⟩ := sub_le (s := z) (i := 0) (j := q.2) (Int.le_refl 0) hq.2.1 (by omega)
  rw [ht, Option.bind_some]
  exact Ret.pure (by omega)
theorem runDraw_ret {x : List Int} (hw : ∀ n ∈ x, InK .u8 n) : Ret (spec_DrawHouseRunS x) (fun r => HL r.1 ∧ r.2.length ≤ 14) := by
 unfold spec_DrawHouseRunS
 refine Ret.bind (open_spec x (u8_of hw)) (fun r hr => ?_)
 refine Ret.bind (house_ret hr.1 (by omega) (by omega)) (fun h hh => ?_)
 refine Ret.bind (deeds_ret hr.1 (by omega) (by omega) hh.2.2.1) (fun q hq => ?_)
 exact Ret.pure ⟨hh.2.2.1, hq.2.2⟩
theorem sub_take {α : Type} (xs : List α) {k : Nat} (h : k ≤ xs.length) : subO xs 0 (k : Int) = some (xs.take k) := by
 unfold subO
 rw [if_pos (by simp; omega)]; rfl
theorem pl_FnReadJournal (x : List Int) (hw : ∀ n ∈ x, InK .u8 n) (y : List Int) (hw2 : ∀ n ∈ y, InK .u8 n) : laws_FnReadJournalS x y = some true := by
 unfold laws_FnReadJournalS
 by_cases hl : (x.length : Int) > 1048576 ∨ (y.length : Int) > 1048576
 ·rw [if_pos (by simpa using hl)]
 rw [if_neg (by simpa using hl)]
 obtain ⟨s, hd, hs⟩ := readDraw_ret hw
 rw [hd, Option.bind_some, implJour_eq s (by omega), Option.bind_some, specJour_eq s (by omega), Option.bind_some]
 have hjl := journal_len s
 obtain ⟨n, hn, hns, hfl, hne⟩ := journal_flat s
 rw [sameDeeds_self _ (by omega), Option.bind_some, if_neg (by simp)]
 rw [loopDet (s := (0 : Int)) (fun k => (k : Int)) (s.length + 1) (.inl ()) rfl]
 ·rw [Option.bind_some]
  (try dsimp only)
  obtain ⟨⟨h, ds⟩, hd2, hL, hds⟩ := runDraw_ret hw2
  rw [hd2, Option.bind_some]
  dsimp only at hL hds ⊢
  have hjt : impl_JournalTextS (journal s).1 = some (s.take n) := by
   rw [implJText_eq _ (by omega)]
   rcases jText_cases (journal s).1 with ⟨h1, d, hd, he⟩ | ⟨h1, _⟩
   ·exact absurd he (hne d hd)
   ·rw [h1, hfl]
  have hrun := implRun_eq hL ds (by omega)
  have hval := specHouse_eq h.2.2.2.1 hL
  obtain ⟨it, pr, st, cash, tb⟩ := h
  dsimp only at hval hrun ⊢
  by_cases hv : hB (it, pr, st, cash, tb) = true
  ·have hv' : houseB it pr st cash tb = true := hv
   have hgo := goZ_all hL hv ds
   have hlg := lgo_goZ ds (it, pr, st, cash, tb)
   rw [loopDet (s := ((0 : Int), (0 : Int), it, pr, st, cash, tb)) (fun k => (((lgo (ds.take k) (it, pr, st, cash, tb)).2 : Int), (k : Int), (lgo (ds.take k) (it, pr, st, cash, tb)).1.1, (lgo (ds.take k) (it, pr, st, cash, tb)).1.2.1, (lgo (ds.take k) (it, pr, st, cash, tb)).1.2.2.1, (lgo (ds.take k) (it, pr, st, cash, tb)).1.2.2.2.1, (lgo (ds.take k) (it, pr, st, cash, tb)).1.2.2.2.2)) ds.length
    (((lgo ds (it, pr, st, cash, tb)).2 : Int), (lgo ds (it, pr, st, cash, tb)).1.1, (lgo ds (it, pr, st, cash, tb)).1.2.1, (lgo ds (it, pr, st, cash, tb)).1.2.2.1, (lgo ds (it, pr, st, cash, tb)).1.2.2.2.1, (lgo ds (it, pr, st, cash, tb)).1.2.2.2.2) rfl]
   ·simp only [Option.bind_some]
    have hG : goR (it, pr, st, cash, tb) ds = ((goZ ds (it, pr, st, cash, tb)).1, ((goZ ds (it, pr, st, cash, tb)).2 : Int)) := by unfold goR; rw [if_pos hv]
    rw [hrun, hG, hn, hjt, sub_take s hns, hval, hv', hlg.1]
    simp only [Option.bind_some]
    rw [sameHouse_eq hgo.1, sameHB_true.2 ⟨rfl, rfl, rfl, rfl, rfl⟩, show laws_aliveS = some true from rfl]
    rw [decide_eq_true (show (n : Int) ≤ (s.length : Int) by omega)]
    simp [hlg.2]
   ·intro k hk
    have hgk := goZ_all hL hv (ds.take k)
    have hlk := lgo_goZ (ds.take k) (it, pr, st, cash, tb)
    have hll := lgo_len (ds.take k) (it, pr, st, cash, tb)
    rw [List.length_take] at hll
    rw [← hlk.1] at hgk
    (try dsimp only)
    have hdt := dText_len ds[k]
    rw [decide_eq_true (show (k : Int) < (ds.length : Int) by omega), if_pos rfl, hval, hv']
    simp only [Option.bind_some, if_true]
    rw [geti_lt' hk, Option.bind_some, implDeed_eq, Option.bind_some, wr_succ (n := ds.length) (by omega) hk, lgo_succ ds _ hk]
    generalize lgo (ds.take k) (it, pr, st, cash, tb) = S at hgk hll ⊢
    obtain ⟨⟨it2, pr2, st2, c2, tb2⟩, m⟩ := S
    obtain ⟨g1, g2, -⟩ := hgk
    by_cases ht : dText ds[k] = []
    ·rw [if_pos (by rw [show kindText _ _ _ _ = [] from ht]; rfl), Option.bind_some]
     dsimp only
     rw [implDo_eq (show HouseL it2 pr2 st2 tb2 from g1), Option.bind_some]
     unfold lstep
     rw [if_neg (fun h => h.1 ht)]
     rfl
    ·have hline := implLine_eq (h := (it2, pr2, st2, c2, tb2)) g1 (dText ds[k]) (by omega)
     rw [line_deed g2 ht] at hline
     dsimp only at hline ⊢
     rw [if_neg (by simpa [dText] using ht)]
     unfold dText at hline
     rw [hline, Option.bind_some]
     unfold lstep
     dsimp only
     by_cases ho : (stepZ (it2, pr2, st2, c2, tb2) ds[k]).2 = true
     ·rw [if_pos ho, if_pos (by rfl), if_pos ⟨ht, ho⟩, wr (x := (m : Int) + 1) ⟨by omega, by omega⟩]
      rfl
     ·rw [if_neg ho, if_neg (by simp [txNo]), if_neg (fun h => ho h.2)]
   ·(try dsimp only)
    rw [List.take_length]
    rw [decide_eq_false (show ¬ (ds.length : Int) < (ds.length : Int) by omega)]
    simp
  ·have hv' : houseB it pr st cash tb = false := by simpa [hB] using hv
   rw [loopDet (s := ((0 : Int), (0 : Int), it, pr, st, cash, tb)) (fun k => ((0 : Int), (0 : Int), it, pr, st, cash, tb)) 0 ((0 : Int), it, pr, st, cash, tb) rfl]
   ·simp only [Option.bind_some]
    rw [hrun, hn, hjt, sub_take s hns, hval, hv', show laws_aliveS = some true from rfl, decide_eq_true (show (n : Int) ≤ (s.length : Int) by omega)]
    simp
   ·intro k hk; omega
   ·(try dsimp only)
    rw [hval, hv']
    cases decide ((0 : Int) < (ds.length : Int)) <;> rfl
 ·intro k hk
  (try dsimp only)
  have hk' : k ≤ s.length := by omega
  have hjk := journal_take s k
  obtain ⟨m, hm, hms, _, _⟩ := journal_flat (s.take k)
  rw [List.length_take] at hms
  rw [if_pos (decide_eq_true (by omega)), sub_take s hk', Option.bind_some, implJour_eq _ (by simp; omega), Option.bind_some, decide_eq_false (show ¬ ((journal (s.take k)).1.length : Int) > ((journal s).1.length : Int) by omega)]
  rw [if_neg (show ¬ (((journal s).1.length : Int) < ((journal (s.take k)).1.length : Int)) by omega), if_neg (by simp), sub_take _ hjk.1, Option.bind_some, ← hjk.2, sameDeeds_self _ (by omega), Option.bind_some, Option.bind_some, hm, decide_eq_false (show ¬ (m : Int) > (k : Int) by omega), wr_succ (n := s.length + 1) (by omega) hk]
  simp
 ·(try dsimp only)
  rw [if_neg (by simp; omega)]
end Go.Proofs.YtkhnponakhabdaaGreatDoor
