/- Append, make, written-out slices, stores, copy: over a context of resources. Own work, over any program. -/
import Derived.Test.YtkhnponakhabdaaGreatDoorRops
set_option linter.unusedVariables false
namespace Go.Proofs.YtkhnponakhabdaaGreatDoor
open Go Go.RowKit
variable {P : Program}
section runs
variable {T ty e : TypeId} {t : Ty} {z : Value} {by_ : Nat} {w : World} {v u : Value} {xs ys zs : List t.den}
theorem append_res {S B Se : List Nat}
  (ht : P.underlying T = some (.slice e)) (hi : (P.info? e).map (fun i => (i.zero, i.size, i.bytes)) = some (some z, t.size, by_)) (hzs : z.cells.size = t.size) (hby : by_ ≤ 128)
  (hs : Sit w (.sl e t v xs) S) (hd0 : Dj v.ownBlock.toList S) (hr : RepS w t u ys B Se) (hd : Dj v.ownBlock.toList Se) (hz : appO xs ys = some zs) :
  ∃ v' w', (Builtin.append_ #[T, T] ty #[v, u]).run P w = .ok v' w' ∧ Sit w' (.sl e t v' zs) (S ++ Se) ∧ Chg v.ownBlock.toList w w' ∧ ∀ k ∈ v'.ownBlock.toList, k ∈ v.ownBlock.toList ∨ w.heap.size ≤ k := by
 obtain ⟨i, hi, hz0, hsz, hbyt⟩ := info3 hi
 obtain ⟨hroom, rfl⟩ := appO_some hz
 obtain ⟨cs, h1, h2⟩ := hs
 have hSlt : ∀ k ∈ S, k < w.heap.size := h2.lt (fun c x F h => Rep.lt h)
 have hmax : xs.length + ys.length ≤ maxLen := by simp only [maxLen]; omega
 have hbytes : (xs.length + ys.length) * i.bytes ≤ 140737488355328 := by
  have : (xs.length + ys.length) * i.bytes ≤ 1099511627776 * 128 := Nat.mul_le_mul hroom (by omega)
  omega
 have hlen := h2.length (fun c x F h => Rep.length h)
 obtain ⟨p, cap, rfl, hcapu, hrest⟩ := hr
 rcases hrest with ⟨rfl, rfl, rfl⟩ | ⟨b, off, bs, hne, rfl, rfl, h6, h7⟩
 ·have h1' := h1
  obtain ⟨h5, h8⟩ := h1
  have hle : ∃ q c, v = .slice q xs.length c ∧ xs.length ≤ c := by
   rcases h8 with ⟨rfl, h9⟩ | ⟨b, cap, cur, rfl, _, _, h9, _⟩
   ·exact ⟨none, 0, by rw [h9], by omega⟩
   ·exact ⟨_, _, rfl, h9⟩
  obtain ⟨q, c, rfl, hle⟩ := hle
  exact ⟨_, w, run_append_nothing' w ht hi q p _ _ _ hle, ⟨cs, by simpa using h1', by simpa using h2⟩, Chg.refl _ _, fun k hk => .inl hk⟩
 ·have hbl := h6.length (fun c x F h => Rep.length h)
  have hnews : ∀ j x, bs[j]? = some x → w.cell? ((⟨b, off, none⟩ : Addr).add j) = some x := fun j x hj => by rw [Addr.add_none]; exact h7 j x hj
  have hone : ∀ x ∈ bs, x.oneCell' = true := h6.one (fun c x F h => Rep.one h)
  obtain ⟨v', w', hrun, hown', hg, _⟩ := run_append_own (P := P) w 0 T ty e i z t.size i.bytes ht hi hz0 hsz rfl hzs t.size_pos v xs.length cs h1 ⟨b, off, none⟩ ys.length cap bs hbl hnews hone hmax hbytes (Nat.zero_le _)
  have hblock : v'.ownBlock = v.ownBlock ∨ v'.ownBlock = some w.heap.size := by
   have h1' := h1
   obtain ⟨h5, h8⟩ := h1
   rcases h8 with ⟨rfl, h9⟩ | ⟨g, cap', cur, rfl, hb0, hgg, hnc, hcm, hcs, htake⟩
   ·have hypos : 0 < ys.length := List.length_pos_iff.2 hne
    have hcs0 : cs = [] := List.eq_nil_of_length_eq_zero (by rw [h5, h9]; simp)
    subst hcs0
    have hr := run_append_nil (P := P) w T ty e i z ht hi hz0 ⟨b, off, none⟩ ys.length cap bs (by rw [hsz]; exact hbl) hnews hypos (by omega) (by
     have : ys.length * i.bytes ≤ 1099511627776 * 128 := Nat.mul_le_mul (by omega) (by omega)
     omega)
    rw [hrun] at hr
    injection hr with e1 e2
    right; rw [e1]; rfl
   ·by_cases hroom' : xs.length + ys.length ≤ cap'
    ·have hfit : xs.length * i.size + bs.length ≤ cur.size := by rw [hbl, hcs, hsz, ← Nat.add_mul]; exact Nat.mul_le_mul_right _ hroom'
     have hr := run_append_room (P := P) w T ty e i ht hi g xs.length cap' cur hgg ⟨b, off, none⟩ ys.length cap bs (by rw [hsz]; exact hbl) hnews hone hroom' hfit
     rw [hrun] at hr
     injection hr with e1 e2
     left; rw [e1]; rfl
    ·have holds : ∀ j u, cs[j]? = some u → w.cell? ((⟨g, 0, none⟩ : Addr).add j) = some u := h1'.cells (g := g) rfl
     have hr := run_append_grow (P := P) w T ty e i z ht hi hz0 ⟨g, 0, none⟩ xs.length cap' cs (by rw [hsz]; exact h5) holds ⟨b, off, none⟩ ys.length cap bs (by rw [hsz]; exact hbl) hnews (by omega) (by omega) (growslice_fits (by omega) hbytes)
     rw [hrun] at hr
     injection hr with e1 e2
     right; rw [e1]; rfl
  have hA : ∀ k, k < w.heap.size → k ∉ v.ownBlock.toList → w'.heap[k]? = w.heap[k]? := fun k hk hm => hg.block k hk (fun e => hm (by rw [← e]; simp))
  have hSelt : ∀ k ∈ Se, k < w.heap.size := h6.lt (fun c x F h => Rep.lt h)
  refine ⟨v', w', hrun, ⟨cs ++ bs, by rw [List.length_append]; exact hown', ?_⟩, ⟨hg.os, hg.tape, hg.output, hg.size, fun k hk hm => hA k hk hm⟩, fun k hk => ?_⟩
  ·refine RepL.append (h2.imp fun c x F' hF hR => hR.keep fun k hk => hA k (hSlt k (hF k hk)) (fun hm => hd0 k hm (hF k hk))) (h6.imp fun c x F' hF hR => hR.keep fun k hk => hA k (hSelt k (hF k hk)) (fun hm => hd k hm (hF k hk)))
  ·rcases hblock with e | e
   ·rw [e] at hk; exact .inl hk
   ·rw [e] at hk; simp at hk; right; omega
theorem made_list (z : Array Value) : ∀ n : Nat, (madeCells z (n * z.size)).toList = (List.replicate n z.toList).flatten
 | 0 => by simp [madeCells]
 | n + 1 => by
  have ih := made_list z n
  simp only [madeCells, Array.toList_map, Array.toList_range] at ih ⊢
  rw [List.replicate_succ, List.flatten_cons, ← ih, show (n + 1) * z.size = z.size + n * z.size by rw [Nat.add_mul]; omega, List.range_add, List.map_append, List.map_map]
  congr 1
  ·apply List.ext_getElem
   ·simp
   ·intro i h1 h2
    have hi : i < z.size := by simpa using h1
    simp [Nat.mod_eq_of_lt hi, hi]
  ·apply List.map_congr_left
   intro i _
   simp
theorem RepL.flat_replicate {α : Type} {R : List Value → α → List Nat → Prop} {c : List Value} {x : α} (h : R c x []) : ∀ n, RepL R (List.replicate n c).flatten (List.replicate n x) []
 | 0 => ⟨rfl, rfl⟩
 | n + 1 => ⟨c, (List.replicate n c).flatten, [], [], by simp [List.replicate_succ], rfl, h, RepL.flat_replicate h n⟩
end runs
section walk
variable {ops : Array Oper} {Q : Exit → Act → World → Prop} {n : Nat} {md : Md} {l : List Oper} {E : Env} {o : Oper} {d : Nat} {ty : TypeId} {ps : String} {af : Array Edge} {g : Option (Nat × Bool)} {x y z : Operand} {T : TypeId}
variable {M : List Nat} {w0 w w' : World} {Γ Γ' G : List Res} {R R' : Res} {t : Ty} {v u : Value} {xs ys zs : List t.den} {e : TypeId}
theorem WL_appendH {zv : Value} {by_ : Nat} (H : Holds M w0 w (.sl e t v xs :: Γ) G) (hh : Has (.sl e t v xs :: (Γ ++ G)) t u ys) (hz : appO xs ys = some zs)
  (ht : P.underlying T = some (.slice e)) (hi : (P.info? e).map (fun i => (i.zero, i.size, i.bytes)) = some (some zv, t.size, by_)) (hzs : zv.cells.size = t.size) (hby : Nat.ble by_ 128 = true)
  (hw : wantedE ops E ⟨some d, .call ⟨.builtin .append, #[x, y], #[T, T]⟩, ty, ps, af, g⟩ = some true) (hx : ev E x = some v) (hy : ev E y = some u) (hn : Nat.blt d n = true)
  (h : ∀ v' w', Holds M w0 w' (.sl e t v' zs :: Γ) G → XL P ops n (.seq Q) l ((d, v') :: E) w') :
  XL P ops n (.seq Q) (⟨some d, .call ⟨.builtin .append, #[x, y], #[T, T]⟩, ty, ps, af, g⟩ :: l) E w := by
 have key : ∀ S L, L.map (·.1) = Γ ++ G → Sit w (.sl e t v xs) S → SitAll w L → ApartL ((.sl e t v xs, S) :: L) → ∃ v' w', (Builtin.append_ #[T, T] ty #[v, u]).run P w = .ok v' w' ∧ ∃ S', Chg v.ownBlock.toList w w' ∧ Sit w' (.sl e t v' zs) S' ∧ (∀ k ∈ v'.ownBlock.toList, k ∈ v.ownBlock.toList ∨ w.heap.size ≤ k) ∧ (∀ k ∈ S', w.heap.size ≤ k ∨ ∀ g ∈ L, k ∉ g.1.own) ∧ Dj v'.ownBlock.toList S' := by
  intro S L h1 hs ht' ha
  obtain ⟨B, Se, hr, _, hSe⟩ := hh w ((.sl e t v xs, S) :: L) (by simp [h1]) ⟨hs, ht'⟩ ha
  have hzone : ∀ k ∈ Se, ∀ g ∈ (Res.sl e t v xs, S) :: L, k ∉ g.1.own := fun k hk g hg => by
   obtain ⟨f, hf, hk2⟩ := hSe k hk
   exact ha.zone hf hg hk2
  have hzone0 : ∀ k ∈ S, ∀ g ∈ (Res.sl e t v xs, S) :: L, k ∉ g.1.own := fun k hk g hg => ha.zone (f := (Res.sl e t v xs, S)) (by simp) hg hk
  have hSlt := hs.lt.2
  obtain ⟨v', w', h2, h3, h4, h5⟩ := append_res (ty := ty) ht hi hzs (by simpa using hby) hs (fun k hk hk' => hzone0 k hk' _ (List.mem_cons_self) hk) hr (fun k hk hk' => hzone k hk' _ (List.mem_cons_self) hk) hz
  have hlt2 := h3.lt.2
  have hSe2 : ∀ k ∈ S ++ Se, ∀ g ∈ (Res.sl e t v xs, S) :: L, k ∉ g.1.own := fun k hk g hg => by
   rcases List.mem_append.1 hk with hk | hk
   ·exact hzone0 k hk g hg
   ·exact hzone k hk g hg
  have hold : ∀ k ∈ S ++ Se, k < w.heap.size := fun k hk => by
   rcases List.mem_append.1 hk with hk | hk
   ·exact hSlt k hk
   ·obtain ⟨f, hf, hk2⟩ := hSe k hk
    exact ((show SitAll w ((Res.sl e t v xs, S) :: L) from ⟨hs, ht'⟩).lt f hf).2 k hk2
  refine ⟨v', w', h2, S ++ Se, h4, h3, h5, fun k hk => .inr fun g hg => hSe2 k hk g (by simp [hg]), fun k hk hk' => ?_⟩
  rcases h5 k hk with h6 | h6
  ·exact hSe2 k hk' _ (List.mem_cons_self) h6
  ·have := hold k hk'; omega
 obtain ⟨S, L, h1, hs, ht', ha⟩ := H.ctx.cons_inv
 obtain ⟨v', w', hrun, _⟩ := key S L h1 hs ht' ha
 refine WL_run hw (fun ρ hρ => ?_) rfl hn (h v' w' (H.upd fun S L h1 hs ht' ha => ?_))
 ·simp [execOp, resolve, invoke, builtin, hρ x _ hx, hρ y _ hy, hrun]
 ·obtain ⟨v2, w2, hrun2, S', h2⟩ := key S L h1 hs ht' ha
  rw [hrun] at hrun2
  injection hrun2 with e1 e2
  subst e1; subst e2
  exact ⟨S', h2⟩
theorem WL_makeH {c : Value} {by_ : Nat} {zx : t.den} {k : IntKind} {m : Int} (H : Holds M w0 w Γ G)
  (hm : mkO zx m = some zs) (ht : P.underlying T = some (.slice e)) (hi : (P.info? e).map (fun i => (i.zero, i.size, i.bytes)) = some (some c, t.size, by_)) (hzc : c.cells.size = t.size) (hz : ∀ w, Rep w t c.cells.toList zx []) (hby : Nat.ble by_ 128 = true)
  (hw : wantedE ops E ⟨some d, .makeSlice T x y, ty, ps, af, g⟩ = some true) (hx : ev E x = some (.int k m)) (hy : ev E y = some (.int k m)) (hn : Nat.blt d n = true)
  (h : ∀ v' w', Holds M w0 w' (.sl e t v' zs :: Γ) G → XL P ops n (.seq Q) l ((d, v') :: E) w') :
  XL P ops n (.seq Q) (⟨some d, .makeSlice T x y, ty, ps, af, g⟩ :: l) E w := by
 obtain ⟨h0, hr, rfl⟩ := mkO_some hm
 obtain ⟨i, hi, hz0, hsz, hbyt⟩ := info3 hi
 have hby' : by_ ≤ 128 := by simpa using hby
 have hb : i.bytes * m.toNat ≤ 281474976710656 := by
  have : i.bytes * m.toNat ≤ 128 * 1099511627776 := Nat.mul_le_mul (by omega) hr
  omega
 obtain ⟨w', hrun, hown, hg⟩ := run_make_full (P := P) w 0 T e i c t.size ht hi hz0 hsz k k m.toNat hb (by simp only [maxLen]; omega) (Nat.zero_le _)
 have hbelow : Below w.heap.size w w' := ⟨hg.os, hg.tape, hg.output, hg.size, fun k hk => hg.block k hk (by simp)⟩
 have hmm : ((m.toNat : Nat) : Int) = m := by omega
 refine WL_run (v := .slice (some ⟨w.heap.size, 0, none⟩) m.toNat m.toNat) (w' := w') hw (fun ρ hρ => ?_) rfl hn (h _ w' (H.add fun L h1 h2 h3 => ⟨[], hbelow, ?_, (fun k hk => by simp [Res.own, Value.ownBlock] at hk; omega), (fun k hk => by cases hk), (fun k _ hk => by cases hk)⟩))
 ·rw [hmm] at hrun
  simp [execOp, hρ x _ hx, hρ y _ hy, hrun]
 ·refine ⟨_, by rw [List.length_replicate]; exact hown, ?_⟩
  rw [← hzc, made_list]; exact RepL.flat_replicate (hz w') _
end walk
end Go.Proofs.YtkhnponakhabdaaGreatDoor
