/- slices.Delete of one table, over a row that the call owns through and through. Own work. -/
import Derived.Test.YtkhnponakhabdaaGreatDoorChecked
import Derived.Test.YtkhnponakhabdaaGreatDoorOrd
set_option linter.unusedVariables false
set_option maxRecDepth 10000
namespace Go.Proofs.YtkhnponakhabdaaGreatDoor
open Go Go.RowKit
section gen
variable {P : Program} {ops : Array Oper} {Q : Exit → Act → World → Prop} {n : Nat} {l : List Oper} {E : Env} {o : Oper} {ty : TypeId} {ps : String} {af : Array Edge} {g : Option (Nat × Bool)} {x y z : Operand} {T e : TypeId} {w w' : World}
theorem WL_doV {v : Value} (hw : wantedE ops E o = some true) (hrun : ∀ ρ, Sat ρ E → (execOp ρ o).run P w = .ok (.value v) w') (hd : o.dst = none) (h : XL P ops n (.seq Q) l E w') : XL P ops n (.seq Q) (o :: l) E w := by
 intro a ha
 unfold wpList
 rw [if_pos (wanted_of ha hw)]
 refine .inl ?_
 unfold Oper.wp
 rw [hrun a.eval (fun x u hx => ha.eval hx)]
 show wpList P ops Q l (a.put o.dst v) w'
 rw [hd]
 exact h _ ha
theorem qt_sliceV {d : Option Nat} {a : Option Addr} {len cap lo hi s : Nat} {xl xh : Option Operand} (hT : P.underlying T = some (.slice e)) (hs : (P.info? e).map (·.size) = some s) (hx : ev E x = some (.slice a len cap)) (hxl : bndE E xl 0 (lo : Int)) (hxh : bndE E xh len (hi : Int)) (h1 : lo ≤ hi) (h2 : hi ≤ cap) :
  Qt P ⟨d, .slice T x xl xh none, ty, ps, af, g⟩ E w (.slice (if cap = lo then a else a.map (·.add (lo * s))) (hi - lo) (cap - lo)) := fun w' _ ρ hρ => by
 obtain ⟨ti, hti, hsz⟩ := Option.map_eq_some_iff.1 hs
 have hb : ∀ (k : IntKind) (m b : Nat) (c : _), m ≤ b → (Instr.sliceBound (.int k (m : Int)) b c).run P w' = .ok m w' := fun k m b c h => by
  have : (0 : Int) ≤ (m : Int) ∧ (m : Int) ≤ (b : Int) := by omega
  simp [Instr.sliceBound, asIntOf, this]
 cases xl with
 | none =>
  have hl0 : lo = 0 := by simp only [bndE] at hxl; omega
  subst hl0
  cases xh with
  | none =>
   have hh0 : hi = len := by simp only [bndE] at hxh; omega
   subst hh0
   by_cases hc : cap = 0 <;> simp [execOp, hρ x _ hx, Instr.sliceAt, Instr.slice, run_underlying hT, Instr.sliceBounds, sizeOf, typeInfo, hti, hsz, hc]
  | some xh =>
   obtain ⟨k, hxh⟩ := hxh
   have := hb k hi cap .sliceAcap h2
   by_cases hc : cap = 0
   ·subst hc
    simp [execOp, hρ x _ hx, hρ xh _ hxh, Instr.sliceAt, Instr.slice, run_underlying hT, Instr.sliceBounds, sizeOf, typeInfo, hti, hsz, this]
   ·simp [execOp, hρ x _ hx, hρ xh _ hxh, Instr.sliceAt, Instr.slice, run_underlying hT, Instr.sliceBounds, sizeOf, typeInfo, hti, hsz, hc, this]
 | some xl =>
  obtain ⟨k, hxl⟩ := hxl
  have h3 := hb k lo hi .sliceB h1
  cases xh with
  | none =>
   have hh0 : hi = len := by simp only [bndE] at hxh; omega
   subst hh0
   by_cases hc : cap = lo <;> simp [execOp, hρ x _ hx, hρ xl _ hxl, Instr.sliceAt, Instr.slice, run_underlying hT, Instr.sliceBounds, sizeOf, typeInfo, hti, hsz, h3, hc]
  | some xh =>
   obtain ⟨k', hxh⟩ := hxh
   have h4 := hb k' hi cap .sliceAcap h2
   by_cases hc : cap = lo
   ·subst hc
    simp [execOp, hρ x _ hx, hρ xl _ hxl, hρ xh _ hxh, Instr.sliceAt, Instr.slice, run_underlying hT, Instr.sliceBounds, sizeOf, typeInfo, hti, hsz, h3, h4]
   ·simp [execOp, hρ x _ hx, hρ xl _ hxl, hρ xh _ hxh, Instr.sliceAt, Instr.slice, run_underlying hT, Instr.sliceBounds, sizeOf, typeInfo, hti, hsz, h3, h4, hc]
theorem qt_slice3 {d : Option Nat} {a : Option Addr} {len cap lo hi mx s : Nat} {xl xh xm : Operand} {k1 k2 k3 : IntKind} (hT : P.underlying T = some (.slice e)) (hs : (P.info? e).map (·.size) = some s) (hx : ev E x = some (.slice a len cap)) (hxl : ev E xl = some (.int k1 (lo : Int))) (hxh : ev E xh = some (.int k2 (hi : Int))) (hxm : ev E xm = some (.int k3 (mx : Int))) (h1 : lo ≤ hi) (h2 : hi ≤ mx) (h3 : mx ≤ cap) :
  Qt P ⟨d, .slice T x (some xl) (some xh) (some xm), ty, ps, af, g⟩ E w (.slice (if mx = lo then a else a.map (·.add (lo * s))) (hi - lo) (mx - lo)) := fun w' _ ρ hρ => by
 obtain ⟨ti, hti, hsz⟩ := Option.map_eq_some_iff.1 hs
 have hb : ∀ (k : IntKind) (m b : Nat) (c : _), m ≤ b → (Instr.sliceBound (.int k (m : Int)) b c).run P w' = .ok m w' := fun k m b c h => by
  have : (0 : Int) ≤ (m : Int) ∧ (m : Int) ≤ (b : Int) := by omega
  simp [Instr.sliceBound, asIntOf, this]
 have e1 := hb k3 mx cap .slice3Acap h3
 have e2 := hb k2 hi mx .slice3B h2
 have e3 := hb k1 lo hi .slice3C h1
 by_cases hc : mx = lo
 ·subst hc
  simp [execOp, hρ x _ hx, hρ xl _ hxl, hρ xh _ hxh, hρ xm _ hxm, Instr.sliceAt, Instr.slice, run_underlying hT, Instr.sliceBounds, sizeOf, typeInfo, hti, hsz, e1, e2, e3]
 ·simp [execOp, hρ x _ hx, hρ xl _ hxl, hρ xh _ hxh, hρ xm _ hxm, Instr.sliceAt, Instr.slice, run_underlying hT, Instr.sliceBounds, sizeOf, typeInfo, hti, hsz, e1, e2, e3, hc]
end gen
abbrev delT : DT := (.pair (.leaf (.int .i64)) (.pair (.sl 123 (.leaf (.pair (.int .i64) (.int .i64)))) (.sl 3 (.leaf (.int .i64)))))
abbrev delZ : List Value := [.int .i64 0, .slice none 0 0, .slice none 0 0]
theorem del_u : Tryz.prog.underlying 25 = some (.slice 38) := by kernel_rfl
theorem del_i : (Tryz.prog.info? 38).map (·.size) = some 3 := by kernel_rfl
theorem del_z : (Tryz.prog.info? 38).map (·.zero) = some (some (.agg #[.int .i64 0, .slice none 0 0, .slice none 0 0])) := by kernel_rfl
noncomputable def impl_TableS (p0 : List (Int × (List (Int × Int)) × (List Int))) (p1 p2 : Int) : Option (List (Int × (List (Int × Int)) × (List Int))) :=
 if 0 ≤ p1 ∧ p2 = p1 + 1 ∧ p1 < p0.length then some (p0.take p1.toNat ++ p0.drop (p1.toNat + 1)) else none
theorem w_impl_Table (w : World) (G : List Res) (vp0 : Value) (p0 : List (Int × (List (Int × Int)) × (List Int))) (csp0 : List Value) (Fp0 : List Nat) (p1 : Int) (p2 : Int) (r : List (Int × (List (Int × Int)) × (List Int))) (h : impl_TableS p0 p1 p2 = some r) (H : Ctx w ([dpR 38 delT vp0 csp0 p0 Fp0] ++ G)) :
  Calls Tryz.prog 112 #[vp0, .int .i64 p1, .int .i64 p2] w fun e w' => ∃ (v1 : Value) (csv1 : List Value) (Fv1 : List Nat), e = .returned (v1) ∧ Holds (([dpR 38 delT vp0 csp0 p0 Fp0] : List Res).flatMap Res.own) w w' [dpR 38 delT v1 csv1 r Fv1] G := by
 unfold impl_TableS at h
 split at h
 ·rename_i hr
  obtain ⟨h0, rfl, hlt⟩ := hr
  obtain rfl := Option.some.inj h
  obtain ⟨i, rfl⟩ : ∃ i : Nat, p1 = (i : Int) := ⟨p1.toNat, by omega⟩
  have hi : i < p0.length := by omega
  rw [show (i : Int).toNat = i from rfl]
  have HH : Holds (([dpR 38 delT vp0 csp0 p0 Fp0] : List Res).flatMap Res.own) w w [dpR 38 delT vp0 csp0 p0 Fp0] G := Holds.startN H
  have hFlt := DpP.lt HH.dpP
  obtain ⟨hnd, F', g1, g2, g3⟩ := HH.dpP
  have g1' := g1
  obtain ⟨hlc, hc⟩ := g1
  rcases hc with ⟨_, hz⟩ | ⟨b, cap, cur, rfl, _, hg, hnc, hcm, hcz, htk⟩
  ·rw [hz] at hi; omega
  ·have hsz : Ty.size (DT.ty delT) = 3 := rfl
   generalize hn : p0.length = n at *
   refine calls_enter (args := [.slice (some ⟨b, 0, none⟩) n cap, .int .i64 (i : Int), .int .i64 ((i : Int) + 1)]) (n := 33) Tryz.func112 rfl rfl rfl ?_
   refine WP_seq ?_
   refine WP_region ?_
   refine XL_q rfl (qt_assign rfl) rfl rfl ?_
   refine WL_nil_seq ?_
   refine WP_seq ?_
   refine WP_region ?_
   refine XL_q rfl (qt_move rfl) rfl rfl ?_
   refine XL_q rfl (qt_move rfl) rfl rfl ?_
   refine XL_q rfl (qt_move rfl) rfl rfl ?_
   refine XL_q rfl (qt_move rfl) rfl rfl ?_
   refine XL_q rfl (qt_len del_u rfl) rfl rfl ?_
   refine XL_q rfl (qt_slice3 (lo := i) (hi := i + 1) (mx := n) del_u del_i rfl rfl rfl rfl (by omega) (by omega) hnc) rfl rfl ?_
   refine WL_nil_seq ?_
   refine WP_seq ?_
   refine WP_seq ?_
   refine WP_region ?_
   refine XL_q rfl (qt_move rfl) rfl rfl ?_
   refine XL_q rfl (qt_move rfl) rfl rfl ?_
   refine XL_q rfl (qt_eql rfl rfl) rfl rfl ?_
   refine WL_nil_seq ?_
   refine WP_cond rfl (fun hc1 => ?_) (fun hc1 => ?_)
   ·have hq : (i : Int) = (i : Int) + 1 := by simpa using hc1
    omega
   ·refine WP_skip_seq ?_
    refine WP_seq ?_
    refine WP_region ?_
    refine XL_q rfl (qt_move rfl) rfl rfl ?_
    refine XL_q rfl (qt_len del_u rfl) rfl rfl ?_
    refine XL_q rfl (qt_assign rfl) rfl rfl ?_
    refine WL_nil_seq ?_
    refine WP_seq ?_
    have hz3 : ∀ c x F, DRep w delT c x F → c.length = 3 := fun c x F hh => DRep.length hh
    obtain ⟨Fa, Fq, hF1, g4, g5⟩ := g2.split (s := 3) hz3 i
    obtain ⟨Fm, Fb, hF2, g6, g7⟩ := g5.split (s := 3) hz3 1
    rw [Nat.one_mul, List.drop_drop, List.drop_drop] at g7
    have hcs3 : csp0.length = n * 3 := hlc
    have hl1 : (csp0.take (i * 3)).length = i * 3 := by rw [List.length_take, hcs3]; omega
    have hl2 : (csp0.drop (i * 3 + 3)).length = (n - (i + 1)) * 3 := by rw [List.length_drop, hcs3]; omega
    generalize hA : csp0.take (i * 3) = A at *
    generalize hB : csp0.drop (i * 3 + 3) = B at *
    have hone2 : ∀ u ∈ B, u.oneCell' = true := g7.one (fun c x F hh => DRep.one hh)
    have hBl : B.length = (n - (i + 1)) * 3 := hl2
    obtain ⟨mid, hmid⟩ : ∃ mid, csp0 = A ++ mid ++ B ∧ mid.length = 3 := ⟨(csp0.drop (i * 3)).take 3, by
     rw [← hA, ← hB, ← List.drop_drop, List.append_assoc, List.take_append_drop, List.take_append_drop], by
     rw [List.length_take, List.length_drop, hcs3]; omega⟩
    obtain ⟨hmid, hml⟩ := hmid
    have hcur : cur.toList = A ++ mid ++ B ++ cur.toList.drop (n * 3) := by rw [← hmid, ← htk]; exact (List.take_append_drop _ _).symm
    generalize hR : cur.toList.drop (n * 3) = Rr at *
    have hcl : cur.size = cap * 3 := hcz
    have hcl2 : cur.toList.length = cap * 3 := by rw [Array.length_toList]; exact hcl
    have hAl : A.length = i * 3 := hl1
    have hsplit : (i * 3 + 3) + (n - (i + 1)) * 3 = n * 3 := by omega
    refine WP_join (M := fun a w2 => Fr a 33 [(0, .slice (some ⟨b, 0, none⟩) (n - 1) cap), (7, .int .i64 (n : Int))] ∧ Chg [b] w w2 ∧ w2.heap[b]? = some (.cells (A ++ B ++ (mid ++ B ++ Rr).drop B.length).toArray 38 (0, 0))) ?_ ?_
    ·refine WP_ordersT (fun w1 w2 => Chg [b] w1 w2) 7 (by kernel_rfl) (fun w1 hb => ?_)
     have hbl : b < w.heap.size := by
      rcases Nat.lt_or_ge b w.heap.size with h | h
      ·exact h
      ·rw [Array.getElem?_eq_none h] at hg; cases hg
     have hg1 : w1.heap[b]? = some (.cells cur 38 (0, 0)) := (hb.block b hbl).trans hg
     have hS : Chg [b] w1 w1 := Chg.refl _ _
     refine XC_take (i := 0) rfl (by kernel_rfl) (by kernel_rfl) (by kernel_rfl) (by kernel_rfl) rfl hS rfl (QtS.of (fun _ => qt_move rfl)) rfl rfl ?_
     refine XC_take (i := 1) rfl (by kernel_rfl) (by kernel_rfl) (by kernel_rfl) (by kernel_rfl) rfl hS rfl (QtS.of (fun _ => qt_move rfl)) rfl rfl ?_
     refine XC_take (i := 2) rfl (by kernel_rfl) (by kernel_rfl) (by kernel_rfl) (by kernel_rfl) rfl hS rfl (QtS.of (fun _ => qt_sliceV (lo := 0) (hi := i) del_u del_i rfl rfl ⟨_, rfl⟩ (by omega) (by omega))) rfl rfl ?_
     refine XC_take (i := 3) rfl (by kernel_rfl) (by kernel_rfl) (by kernel_rfl) (by kernel_rfl) rfl hS rfl (QtS.of (fun _ => qt_move rfl)) rfl rfl ?_
     refine XC_take (i := 4) rfl (by kernel_rfl) (by kernel_rfl) (by kernel_rfl) (by kernel_rfl) rfl hS rfl (QtS.of (fun _ => qt_move rfl)) rfl rfl ?_
     obtain ⟨v25, hv25⟩ : ∃ v, Value.slice (if cap = i + 1 then some ⟨b, 0, none⟩ else (some ⟨b, 0, none⟩ : Option Addr).map (·.add ((i + 1) * 3))) (n - (i + 1)) (cap - (i + 1)) = v := ⟨_, rfl⟩
     refine XC_takee (i := 5) rfl (by kernel_rfl) (by kernel_rfl) (by kernel_rfl) (by kernel_rfl) rfl hS rfl (QtS.of (fun _ => qt_sliceV (lo := i + 1) (hi := n) del_u del_i rfl ⟨_, rfl⟩ rfl (by omega) hnc)) hv25 rfl rfl ?_
     refine XC_all [6] (by kernel_rfl) (by simp) (allc ?_ alln)
     refine XC_do rfl ?_
     obtain ⟨ti, hti, hts⟩ := Option.map_eq_some_iff.1 del_i
     have hcap0 : ¬ cap = 0 := by omega
     have e22 : (if cap = 0 then (some ⟨b, 0, none⟩ : Option Addr) else (some ⟨b, 0, none⟩ : Option Addr).map (·.add (0 * 3))) = some ⟨b, 0, none⟩ := by rw [if_neg hcap0]; simp [Addr.add_none]
     rw [e22, Nat.sub_zero, Nat.sub_zero]
     have hroom : i + (n - (i + 1)) ≤ cap := by omega
     have hdrop : cur.toList.drop (i * 3 + B.length) = (mid ++ B ++ Rr).drop B.length := by
      rw [hcur, show A ++ mid ++ B ++ Rr = A ++ (mid ++ B ++ Rr) by simp, ← hAl, List.drop_length_add_append]
     have htake : cur.toList.take (i * 3) = A := by
      rw [hcur, show A ++ mid ++ B ++ Rr = A ++ (mid ++ B ++ Rr) by simp, ← hAl, List.take_left]
     have hset : (Builtin.append_ #[25, 25] 25 #[.slice (some ⟨b, 0, none⟩) i cap, v25]).run Tryz.prog w1 = .ok (.slice (some ⟨b, 0, none⟩) (n - 1) cap) (w1.setRow b (A ++ B ++ (mid ++ B ++ Rr).drop B.length).toArray) := by
      have hnews : ∀ (a : Addr), (cap = i + 1 ∨ a = ⟨b, (i + 1) * 3, none⟩) → ∀ j u, B[j]? = some u → w1.cell? (a.add j) = some u := fun a ha j u hj => by
       have hjl := (List.getElem?_eq_some_iff.1 hj).1
       rcases ha with ha | ha
       ·rw [hBl] at hjl; omega
       ·subst ha
        rw [Addr.add_none]
        unfold World.cell?
        simp only [hg1]
        have hk : cur.toList[(i + 1) * 3 + j]? = some u := by
         rw [hcur, show (i + 1) * 3 + j = (A ++ mid).length + j by simp [hAl, hml]; omega, List.append_assoc (A ++ mid), List.getElem?_append_right (by omega), Nat.add_sub_cancel_left, List.getElem?_append_left hjl, hj]
        simpa using hk
      have key : ∀ a : Addr, (cap = i + 1 ∨ a = ⟨b, (i + 1) * 3, none⟩) → (Builtin.append_ #[25, 25] 25 #[.slice (some ⟨b, 0, none⟩) i cap, .slice (some a) (n - (i + 1)) (cap - (i + 1))]).run Tryz.prog w1 = .ok (.slice (some ⟨b, 0, none⟩) (n - 1) cap) (w1.setRow b (A ++ B ++ (mid ++ B ++ Rr).drop B.length).toArray) := fun a ha => by
       have hrun := run_append_room (P := Tryz.prog) (w := w1) 25 25 38 ti del_u hti b i cap cur hg1 a (n - (i + 1)) (cap - (i + 1)) B (by rw [hts]; exact hBl) (hnews a ha) hone2 hroom (by rw [hts, hcl, hBl]; omega)
       rw [hrun, hts, htake, hdrop, show i + (n - (i + 1)) = n - 1 by omega]
      rw [← hv25]
      by_cases hce : cap = i + 1
      ·rw [if_pos hce]; exact key _ (.inl hce)
      ·rw [if_neg hce, Option.map_some, Addr.add_none, Nat.zero_add]; exact key _ (.inr rfl)
     refine WL_run (v := .slice (some ⟨b, 0, none⟩) (n - 1) cap) (w' := w1.setRow b (A ++ B ++ (mid ++ B ++ Rr).drop B.length).toArray) rfl (fun ρ hρ => ?_) rfl rfl ?_
     ·have q1 := hρ (.tmp 22) _ rfl
      have q2 := hρ (.tmp 25) _ rfl
      simp [execOp, resolve, invoke, builtin, q1, q2, hset]
     ·refine WL_nil fun a ha => ⟨rfl, fun _ => ?_, (?_ : XC _ _ _ _ _ _ _ _ _ _) a ha⟩
      ·exact setRow_chg
      ·refine XC_all [7] (by kernel_rfl) (by simp) (allc ?_ alln)
       refine XC_do rfl ?_
       refine XL_q rfl (qt_assign rfl) rfl rfl ?_
       refine WL_nil fun a ha => ⟨rfl, fun h => absurd h (by decide), (?_ : XC _ _ _ _ _ _ _ _ _ _) a ha⟩
       refine XC_done (by kernel_rfl) (fun a ha => ?_)
       refine ⟨ha.sub ⟨rfl, rfl, trivial⟩, ?_, ?_⟩
       ·refine ⟨hb.os, hb.tape, hb.output, by simpa [World.setRow] using hb.size, fun k hk hm => ?_⟩
        rw [setRow_other w1 b k _ (fun e => hm (by simp [e])), hb.block k hk]
       ·exact setRow_heap w1 b _ _ _ _ hg1
    ·intro a w2 hM
     obtain ⟨ha, hch, hg2⟩ := hM
     refine WP.app ?_ ha
     clear ha
     refine WP_seq ?_
     refine WP_region ?_
     refine XL_q rfl (qt_move rfl) rfl rfl ?_
     refine XL_q rfl (qt_move rfl) rfl rfl ?_
     refine XL_q rfl (qt_len del_u rfl) rfl rfl ?_
     refine XL_q rfl (qt_move rfl) rfl rfl ?_
     refine XL_q rfl (qt_sliceV (lo := n - 1) (hi := n) del_u del_i rfl ⟨_, rfl⟩ ⟨_, rfl⟩ (by omega) hnc) rfl rfl ?_
     have e31 : (if cap = n - 1 then (some ⟨b, 0, none⟩ : Option Addr) else (some ⟨b, 0, none⟩ : Option Addr).map (·.add ((n - 1) * 3))) = some ⟨b, (n - 1) * 3, none⟩ := by rw [if_neg (by omega)]; simp [Addr.add_none]
     rw [e31, show n - (n - 1) = 1 by omega]
     obtain ⟨ti, hti, htz⟩ := Option.map_eq_some_iff.1 del_z
     have hABl : (A ++ B).length = (n - 1) * 3 := by rw [List.length_append, hAl, hBl]; omega
     generalize hrest : (mid ++ B ++ Rr).drop B.length = rest at *
     have hrl : rest.length = cap * 3 - (n - 1) * 3 := by
      have := hcl2
      rw [hcur] at this
      rw [← hrest]
      simp only [List.length_append, List.length_drop] at this ⊢
      omega
     have hcl3 : (A ++ B ++ rest).toArray.size = cap * 3 := by rw [List.size_toArray, List.length_append, hABl, hrl]; omega
     have hst := run_storeCells_at Tryz.prog b ((n - 1) * 3) 38 delZ 0 (A ++ B ++ rest).toArray w2 hg2 (by rw [hcl3]; simp; omega) (by simp; exact ⟨rfl, rfl⟩)
     simp only [Nat.add_zero] at hst
     refine WL_doV (v := .tuple #[]) (w' := w2.setRow b (((A ++ B ++ rest).toArray.toList.take ((n - 1) * 3)) ++ delZ ++ ((A ++ B ++ rest).toArray.toList.drop ((n - 1) * 3 + delZ.length))).toArray) rfl (fun ρ hρ => ?_) rfl ?_
     ·have q1 := hρ (.tmp 31) _ rfl
      have hzv : ∀ w, (zeroValue 38).run Tryz.prog w = .ok (.agg #[.int .i64 0, .slice none 0 0, .slice none 0 0]) w := fun w => by simp [zeroValue, typeInfo, hti, htz]
      have hzc : (Builtin.zeroCells (Value.agg #[.int .i64 0, .slice none 0 0, .slice none 0 0]).cells 1).toList = delZ := by kernel_rfl
      simp only [execOp, resolve, invoke, builtin, q1]
      simp [Builtin.clear_, run_underlying del_u, q1, hzv, hzc, hst]
     ·refine WL_nil_seq ?_
      refine WP_seq ?_
      refine WP_region ?_
      refine XL_q rfl (qt_move rfl) rfl rfl ?_
      refine XL_q rfl (qt_assign rfl) rfl rfl ?_
      refine WL_nil_seq ?_
      refine WP_ret fun a ha => ?_
      have htk2 : (A ++ B ++ rest).toArray.toList.take ((n - 1) * 3) = A ++ B := by
       show (A ++ B ++ rest).take ((n - 1) * 3) = _
       rw [← hABl, List.take_left]
      rw [htk2]
      generalize hW : w2.setRow b (A ++ B ++ delZ ++ (A ++ B ++ rest).toArray.toList.drop ((n - 1) * 3 + delZ.length)).toArray = W
      have hWh : W.heap[b]? = some (.cells (A ++ B ++ delZ ++ (A ++ B ++ rest).toArray.toList.drop ((n - 1) * 3 + delZ.length)).toArray 38 (0, 0)) := by rw [← hW]; exact setRow_heap w2 b _ _ _ _ hg2
      have hWc : Chg [b] w W := hch.trans (by rw [← hW]; exact setRow_chg)
      have hbb : (Value.slice (some ⟨b, 0, none⟩) n cap).ownBlock.toList = [b] := rfl
      rw [hbb, hF1, hF2] at g3
      have hnd' := hnd
      rw [g3] at hnd'
      simp only [List.singleton_append, List.nodup_cons, List.nodup_append, List.mem_append] at hnd'
      obtain ⟨hb1, ha1, ⟨hm1, hb2, hmb⟩, hd1⟩ := hnd'
      have hFa : ∀ k ∈ Fa, k ∈ Fp0 := fun k hk => by rw [g3]; simp [hk]
      have hFb : ∀ k ∈ Fb, k ∈ Fp0 := fun k hk => by rw [g3]; simp [hk]
      have hrlen : (p0.take i ++ p0.drop (i + 1)).length = n - 1 := by rw [List.length_append, List.length_take, List.length_drop, hn]; omega
      refine ret1 rfl ha rfl ⟨_, A ++ B, b :: (Fa ++ Fb), rfl, Holds.updN (Rs := [dpR 38 delT (.slice (some ⟨b, 0, none⟩) n cap) csp0 p0 Fp0]) (Γ := []) HH fun L1 L2 _ _ _ _ _ _ _ => ⟨?_, DpP.sit ⟨?_, Fa ++ Fb, ?_, ?_, rfl⟩, fun j hj => .inl ?_⟩⟩
      ·refine ⟨hWc.os, hWc.tape, hWc.output, hWc.size, fun k hk hm => hWc.block k hk fun hk2 => hm ?_⟩
       have hkb : k = b := by simpa using hk2
       subst hkb
       exact List.mem_flatMap.2 ⟨_, List.mem_cons_self, by show k ∈ Fp0; rw [g3]; simp⟩
      ·refine List.nodup_cons.2 ⟨fun hm => hb1 ?_, List.nodup_append.2 ⟨ha1, hb2, fun x hx y hy => hd1 x hx y (.inr hy)⟩⟩
       rcases List.mem_append.1 hm with hm | hm
       ·exact .inl hm
       ·exact .inr (.inr hm)
      ·rw [hrlen]
       refine ⟨hABl, .inr ⟨b, cap, _, rfl, Nat.zero_le _, hWh, by omega, hcm, ?_, ?_⟩⟩
       ·rw [List.size_toArray]
        have hz : delZ.length = 3 := rfl
        have hcl4 : (A ++ B ++ rest).length = cap * 3 := by rw [← List.size_toArray]; exact hcl3
        rw [hsz, List.length_append, List.length_append, List.length_drop, Array.length_toList, List.size_toArray, hcl4, hABl, hz]
        omega
       ·rw [hsz]
        show (A ++ B ++ delZ ++ _).take _ = _
        rw [← hABl, List.append_assoc (A ++ B), List.take_left]
      ·refine RepL.append (g4.imp fun c x F hF hR => hR.keep fun k hk => hWc.block k (hFlt k (hFa k (hF k hk))) fun hk2 => ?_) (g7.imp fun c x F hF hR => hR.keep fun k hk => hWc.block k (hFlt k (hFb k (hF k hk))) fun hk2 => ?_)
       ·have hkb : k = b := by simpa using hk2
        subst hkb; exact hb1 (.inl (hF k hk))
       ·have hkb : k = b := by simpa using hk2
        subst hkb; exact hb1 (.inr (.inr (hF k hk)))
      ·have e1 : j ∈ b :: (Fa ++ Fb) := hj
       refine List.mem_flatMap.2 ⟨_, List.mem_cons_self, ?_⟩
       show j ∈ Fp0
       rcases List.mem_cons.1 e1 with h | h
       ·rw [h, g3]; simp
       ·rcases List.mem_append.1 h with h | h
        ·exact hFa j h
        ·exact hFb j h
 ·cases h
end Go.Proofs.YtkhnponakhabdaaGreatDoor
