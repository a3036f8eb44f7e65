/- Operations on slices that are owned through and through. Own work, over any program. -/
import Derived.Test.YtkhnponakhabdaaGreatDoorDeep
set_option linter.unusedVariables false
namespace Go.Proofs.YtkhnponakhabdaaGreatDoor
open Go Go.RowKit
variable {P : Program}
section facts
variable {M : List Nat} {w0 w w' : World} {Γ Γ' G Rs : List Res} {R R' : Res} {d d' : DT} {v : Value} {cs : List Value} {xs ys zs : List d.ty.den} {F : List Nat} {e : TypeId}
theorem Holds.dpP (H : Holds M w0 w (dpR e d v cs xs F :: Γ) G) : DpP e d v cs xs F w := by
 obtain ⟨S, L, h1, hs, _⟩ := H.ctx.cons_inv
 exact hs.2.2
theorem Holds.nilDp (H : Holds M w0 w Γ G) : Holds M w0 w (dpR e d (.slice none 0 0) [] [] [] :: Γ) G :=
 H.add fun L h1 h2 h3 => ⟨[], Below.refl _ _, DpP.sit ⟨List.nodup_nil, [], World.ownsRow_nil w 0 e d.ty.size, ⟨rfl, rfl⟩, rfl⟩, (fun k hk => by cases hk), (fun k hk => by cases hk), (fun k hk => by cases hk)⟩
theorem Holds.freezeD (H : Holds M w0 w (dpR e d v cs xs F :: Γ) G) : Holds M w0 w (.ro d.ty v xs :: Γ) G := by
 obtain ⟨h0, hlo, hctx⟩ := H
 obtain ⟨S, L, h1, hs, ht, ha⟩ := hctx.cons_inv
 obtain ⟨S', h2, h3⟩ := hs.2.2.rep
 obtain ⟨a1, a2, a3⟩ := ha.cons_inv
 refine ⟨h0, fun R hR k hk => ?_, (.ro d.ty v xs, S') :: L, by simp [h1], ⟨h2, ht⟩, .cons (fun g hg => ⟨(fun k hk => by cases hk), (fun k hk => by cases hk), fun k hk hk' => ?_⟩) (fun k hk => by cases hk) a3⟩
 ·rcases List.mem_cons.1 hR with rfl | hR
  ·cases hk
  ·exact hlo R (by simp [hR]) k hk
 ·exact (a1 g hg).1 k (h3 k hk') hk
theorem Ctx.at {t : Ty} {x : List t.den} (H : Ctx w Γ) (h : Has Γ t v x) {k : Int} {u : t.den} (hg : geti x k = some u) {b off cap : Nat} (hv : v = .slice (some ⟨b, off, none⟩) x.length cap) : ∃ F, AtP w t b (off + k.toNat * t.size) u F := by
 obtain ⟨L, h1, h2, h3, B, S, hr, hB, hS⟩ := H.has h
 obtain ⟨p, cap', h4, h5, h6⟩ := hr
 rw [hv] at h4
 simp only [Value.slice.injEq] at h4
 obtain ⟨rfl, _, rfl⟩ := h4
 have hz := getE_of_geti hg
 have hlt := (geti_lt hg).2
 rcases h6 with ⟨rfl, _⟩ | ⟨b', off', bs, hne, hp, rfl, h7, h8⟩
 ·simp at hlt
 ·simp only [Option.some.injEq, Addr.mk.injEq, and_true] at hp
  obtain ⟨rfl, rfl⟩ := hp
  obtain ⟨c, F, hR, hF, hc⟩ := h7.get (fun c x F h => Rep.length h) k.toNat u hz
  exact ⟨F, c, hR, fun j z hj => by rw [Nat.add_assoc]; exact h8 _ _ (hc j z hj)⟩
theorem ownsRow_at {size n : Nat} {b off cap : Nat} (h : w.ownsRow 0 e size v n cs) (hv : v = .slice (some ⟨b, off, none⟩) n cap) : off = 0 ∧ ∃ cur, w.heap[b]? = some (.cells cur e (0, 0)) ∧ n ≤ cap ∧ cap ≤ maxLen ∧ cur.size = cap * size ∧ cur.toList.take (n * size) = cs := by
 obtain ⟨_, h6⟩ := h
 rcases h6 with ⟨h7, _⟩ | ⟨g, cap', cur, h7, _, hgg, hnc, hcm, hcz, htk⟩
 ·rw [hv] at h7; cases h7
 ·rw [hv] at h7
  simp only [Value.slice.injEq, Option.some.injEq, Addr.mk.injEq, and_true, true_and] at h7
  obtain ⟨⟨rfl, rfl⟩, rfl⟩ := h7
  exact ⟨rfl, cur, hgg, hnc, hcm, hcz, htk⟩
theorem Holds.ns {e' : TypeId} {off : Nat} {get : d.ty.den → List d'.ty.den} {put : d.ty.den → List d'.ty.den → d.ty.den} {k : Int} {u : d.ty.den} {b o cap : Nat}
  (H : Holds M w0 w (dpR e d v cs xs F :: Γ) G) (hf : Foc d (.sl e' d') off get put) (hg : geti xs k = some u) (hv : v = .slice (some ⟨b, o, none⟩) xs.length cap) :
  ∃ v', cs[k.toNat * d.ty.size + off]? = some v' ∧ w.cell? ⟨b, o + k.toNat * d.ty.size + off, none⟩ = some v' ∧ v'.cells = #[v'] ∧ v'.oneCell' = true ∧ ∃ p c, v' = .slice p (get u).length c := by
 obtain ⟨h0, F', h1, h2, h3⟩ := H.dpP
 have h1' := h1
 obtain ⟨rfl, cur, hgg, hnc, hcm, hcz, htk⟩ := ownsRow_at h1 hv
 obtain ⟨c1, cm, c2, F1, Fm, F2, rfl, h5, _, h6, _⟩ := RepL.foc hf k.toNat h2 (getE_of_geti hg)
 obtain ⟨v', cells, F'', rfl, h7, _⟩ := h6
 have hget : (c1 ++ [v'] ++ c2)[k.toNat * d.ty.size + off]? = some v' := by rw [← h5]; simp
 have hcell := h1'.cells (g := b) (by rw [hv]; rfl) _ _ hget
 rw [Addr.add_none] at hcell
 refine ⟨v', hget, by rw [Nat.add_assoc]; exact hcell, (ownsRow_one h7).2, (ownsRow_one h7).1, ?_⟩
 obtain ⟨_, h8⟩ := h7
 rcases h8 with ⟨rfl, h9⟩ | ⟨g, cap', cur', rfl, _⟩
 ·exact ⟨none, 0, by rw [h9]⟩
 ·exact ⟨_, _, rfl⟩
def HoleP (e : TypeId) (d d' : DT) (v : Value) (cs : List Value) (pos : Nat) (xs : List d.ty.den) (k : Nat) (pu : d'.ty.den → d.ty.den) (F : List Nat) (w : World) : Prop :=
 F.Nodup ∧ ∃ c1 vc c2 Fa Fb, cs = c1 ++ [vc] ++ c2 ∧ c1.length = pos ∧ w.ownsRow 0 e d.ty.size v xs.length cs ∧ F = v.ownBlock.toList ++ (Fa ++ Fb) ∧
  ∀ w' v'' y Fm, (∀ k ∈ Fa ++ Fb, w'.heap[k]? = w.heap[k]?) → DRep w' d' [v''] y Fm → RepL (DRep w' d) (c1 ++ [v''] ++ c2) (xs.set k (pu y)) (Fa ++ Fm ++ Fb)
theorem HoleP.stab {pos : Nat} {k : Nat} {pu : d'.ty.den → d.ty.den} : Stab F (HoleP e d d' v cs pos xs k pu F) := fun w w' hA ⟨h0, c1, vc, c2, Fa, Fb, h1, h2, h3, h4, h5⟩ =>
 ⟨h0, c1, vc, c2, Fa, Fb, h1, h2, ownsRow_keep h3 (fun k hk => hA k (by rw [h4]; exact List.mem_append_left _ hk)), h4, fun w2 v'' y Fm hB hy => h5 w2 v'' y Fm (fun k hk => by rw [hB k hk]; exact hA k (by rw [h4]; exact List.mem_append_right _ hk)) hy⟩
def holeR (e : TypeId) (d d' : DT) (v : Value) (cs : List Value) (pos : Nat) (xs : List d.ty.den) (k : Nat) (pu : d'.ty.den → d.ty.den) (F : List Nat) : Res := .op F (HoleP e d d' v cs pos xs k pu F) HoleP.stab
theorem nodup_mid {A F1 Fm F2 : List Nat} (h : (A ++ (F1 ++ Fm ++ F2)).Nodup) : (A ++ (F1 ++ F2)).Nodup ∧ Fm.Nodup ∧ ∀ k ∈ Fm, k ∉ A ++ (F1 ++ F2) := by
 simp only [List.nodup_append, List.mem_append] at h ⊢
 obtain ⟨hA, ⟨⟨h1, hm, h1m⟩, h2, h12⟩, hd⟩ := h
 refine ⟨⟨hA, ⟨h1, h2, fun a ha b hb => h12 a (.inl ha) b hb⟩, fun a ha b hb => hd a ha b (by rcases hb with hb | hb <;> simp [hb])⟩, hm, fun k hk hk' => ?_⟩
 rcases hk' with hk' | hk' | hk'
 ·exact hd k hk' k (.inl (.inr hk)) rfl
 ·exact h1m k hk' k hk rfl
 ·exact h12 k (.inr hk) k hk' rfl
theorem nodup_mid' {A F1 Fm F2 : List Nat} (h : (A ++ (F1 ++ F2)).Nodup) (hm : Fm.Nodup) (hd : ∀ k ∈ Fm, k ∉ A ++ (F1 ++ F2)) : (A ++ (F1 ++ Fm ++ F2)).Nodup := by
 simp only [List.nodup_append, List.mem_append] at h hd ⊢
 obtain ⟨hA, ⟨h1, h2, h12⟩, hA2⟩ := h
 refine ⟨hA, ⟨⟨h1, hm, fun a ha b hb e => ?_⟩, h2, fun a ha b hb e => ?_⟩, fun a ha b hb e => ?_⟩
 ·subst e; exact hd a hb (.inr (.inl ha))
 ·rcases ha with ha | ha
  ·exact h12 a ha b hb e
  ·subst e; exact hd a ha (.inr (.inr hb))
 ·rcases hb with (hb | hb) | hb
  ·exact hA2 a ha b (.inl hb) e
  ·subst e; exact hd a hb (.inl ha)
  ·exact hA2 a ha b (.inr hb) e
theorem Holds.borrow {e' : TypeId} {t' : Ty} {off : Nat} {get : d.ty.den → List t'.den} {put : d.ty.den → List t'.den → d.ty.den} {k : Int} {u : d.ty.den} {v' : Value}
  (H : Holds M w0 w (dpR e d v cs xs F :: Γ) G) (hf : Foc d (.sl e' (.leaf t')) off get put) (hg : geti xs k = some u) (hc : cs[k.toNat * d.ty.size + off]? = some v') :
  ∃ Fh, Holds M w0 w (.sl e' t' v' (get u) :: holeR e d (.sl e' (.leaf t')) v cs (k.toNat * d.ty.size + off) xs k.toNat (put u) Fh :: Γ) G := by
 obtain ⟨h0, hlo, hctx⟩ := H
 obtain ⟨S, L, h1, hs, ht, ha⟩ := hctx.cons_inv
 obtain ⟨hS, hlt, hn, F', g1, g2, g3⟩ := hs
 obtain ⟨a1, a2, a3⟩ := ha.cons_inv
 obtain ⟨c1, cm, c2, F1, Fm, F2, rfl, h5, rfl, h6, h7⟩ := RepL.foc hf k.toNat g2 (getE_of_geti hg)
 have hcm := mid_get h5 hc h6.length
 subst hcm
 obtain ⟨v2, cells, Fz, he, i1, i2, i3⟩ := h6
 simp only [List.cons.injEq, and_true] at he
 subst he
 obtain ⟨j1, j2⟩ := leaf_rep i2
 subst j2
 rw [List.append_nil] at i3
 subst i3
 rw [g3] at hn
 obtain ⟨n1, n2, n3⟩ := nodup_mid hn
 have hsub : ∀ k ∈ v.ownBlock.toList ++ (F1 ++ F2), k ∈ F := fun k hk => by
  rw [g3]
  simp only [List.mem_append] at hk ⊢
  rcases hk with hk | hk | hk <;> simp [hk]
 have hsubm : ∀ k ∈ v'.ownBlock.toList, k ∈ F := fun k hk => by rw [g3]; simp only [List.mem_append]; simp [hk]
 have hown : (dpR e d v (c1 ++ [v'] ++ c2) xs F).own = F := rfl
 refine ⟨v.ownBlock.toList ++ (F1 ++ F2), h0, fun R hR k hk => ?_, (.sl e' t' v' (get u), []) :: (holeR e d (.sl e' (.leaf t')) v (c1 ++ [v'] ++ c2) (k.toNat * d.ty.size + off) xs k.toNat (put u) (v.ownBlock.toList ++ (F1 ++ F2)), []) :: L, by simp [h1], ⟨⟨cells, i1, j1⟩, ⟨rfl, fun k hk => hlt k (hsub k hk), n1, c1, v', c2, F1, F2, rfl, h5, g1, rfl, fun w' v'' y Fm hA hy => h7 w' [v''] y Fm hA hy⟩, ht⟩, ?_⟩
 ·rcases List.mem_cons.1 hR with rfl | hR
  ·exact hlo _ List.mem_cons_self k (by rw [hown]; exact hsubm k hk)
  ·rcases List.mem_cons.1 hR with rfl | hR
   ·exact hlo _ List.mem_cons_self k (by rw [hown]; exact hsub k hk)
   ·exact hlo R (by simp [hR]) k hk
 ·refine .cons (fun g hg => ?_) (fun k _ hk => by cases hk) (.cons (fun g hg => ?_) (fun k _ hk => by cases hk) a3)
  ·rcases List.mem_cons.1 hg with rfl | hg
   ·exact ⟨fun k hk hk' => n3 k hk hk', (fun k _ hk => by cases hk), (fun k _ hk => by cases hk)⟩
   ·exact ⟨fun k hk hk' => (a1 g hg).1 k (hsubm k hk) hk', fun k hk hk' => (a1 g hg).2.1 k (hsubm k hk) hk', fun k _ hk => by cases hk⟩
  ·exact ⟨fun k hk hk' => (a1 g hg).1 k (hsub k hk) hk', fun k hk hk' => (a1 g hg).2.1 k (hsub k hk) hk', fun k _ hk => by cases hk⟩
theorem Holds.giveBack {e' : TypeId} {t' : Ty} {pos k : Nat} {pu : List t'.den → d.ty.den} {y : List t'.den} {v' : Value} {Fh : List Nat} (hp : plainT t' = true)
  (H : Holds M w0 w (.sl e' t' v' y :: holeR e d (.sl e' (.leaf t')) v cs pos xs k pu Fh :: Γ) G) (hc : cs[pos]? = some v') : ∃ F, Holds M w0 w (dpR e d v cs (xs.set k (pu y)) F :: Γ) G := by
 obtain ⟨S, L, h1, hs, ht, ha⟩ := H.ctx.cons_inv
 obtain ⟨S2, L2, rfl, h2⟩ := map_cons_inv (by simpa using h1)
 obtain ⟨cells, i1, i2⟩ := hs
 obtain ⟨_, _, n1, c1, vc, c2, Fa, Fb, rfl, h5, h6, h7, h8⟩ := ht.1
 have hcm := mid_get h5 hc rfl
 simp only [List.cons.injEq, and_true] at hcm
 subst hcm
 obtain ⟨a1, a2, a3⟩ := ha.cons_inv
 have hd := (a1 _ List.mem_cons_self).1
 refine ⟨v.ownBlock.toList ++ (Fa ++ vc.ownBlock.toList ++ Fb), Holds.updN (Rs := [.sl e' t' vc y, holeR e d (.sl e' (.leaf t')) v (c1 ++ [vc] ++ c2) pos xs k pu Fh]) H fun L1 L2 e1 e2 s1 s2 b1 b2 b3 => ⟨Chg.refl _ _, DpP.sit ⟨?_, Fa ++ vc.ownBlock.toList ++ Fb, by rw [List.length_set]; exact h6, h8 w vc y _ (fun _ _ => rfl) ⟨vc, cells, [], rfl, i1, plain_leaf hp i2, by simp⟩, rfl⟩, fun j hj => .inl ?_⟩⟩
 ·rw [h7] at n1
  exact nodup_mid' n1 (nodup_ownBlock vc) (fun j hj => by rw [← h7]; exact hd j hj)
 ·have e1 : (dpR e d v (c1 ++ [vc] ++ c2) (xs.set k (pu y)) (v.ownBlock.toList ++ (Fa ++ vc.ownBlock.toList ++ Fb))).own = v.ownBlock.toList ++ (Fa ++ vc.ownBlock.toList ++ Fb) := rfl
  rw [e1] at hj
  have e2 : [Res.sl e' t' vc y, holeR e d (.sl e' (.leaf t')) v (c1 ++ [vc] ++ c2) pos xs k pu Fh].flatMap Res.own = vc.ownBlock.toList ++ Fh := by simp [Res.own, holeR]
  rw [e2, h7]
  simp only [List.mem_append] at hj ⊢
  rcases hj with hj | (hj | hj) | hj
  ·exact .inr (.inl hj)
  ·exact .inr (.inr (.inl hj))
  ·exact .inl hj
  ·exact .inr (.inr (.inr hj))
end facts
theorem splice_mid {c1 cm c2 cs' : List Value} {p q : Nat} (h1 : c1.length = p) (h2 : p + q = (c1 ++ cm).length) : (c1 ++ cm ++ c2).take p ++ cs' ++ (c1 ++ cm ++ c2).drop (p + q) = c1 ++ cs' ++ c2 := by
 rw [h2, List.drop_left, List.append_assoc c1 cm c2, ← h1, List.take_left]
section walk
variable {ops : Array Oper} {Q : Exit → Act → World → Prop} {n : Nat} {md : Md} {l : List Oper} {E : Env} {o : Oper} {ty : TypeId} {ps : String} {af : Array Edge} {g : Option (Nat × Bool)} {x y z : Operand} {T : TypeId}
variable {M : List Nat} {w0 w w' : World} {Γ Γ' G Rs : List Res} {R R' : Res} {d d' : DT} {v u : Value} {cs ds : List Value} {xs ys zs : List d.ty.den} {F F1 : List Nat} {e : TypeId} {r : Nat}
theorem XL_load_cell {ds : TypeDesc} {b o : Nat} {c : Value} (hT : P.underlying T = some ds) (ho : oneB ds = true) (hcell : w.cell? ⟨b, o, none⟩ = some c)
  (hw : wantedE ops E ⟨some r, .load T x, ty, ps, af, g⟩ = some true) (hx : ev E x = some (.pointer (some ⟨b, o, none⟩))) (hn : Nat.blt r n = true)
  (h : XL P ops n md l ((r, c) :: E) w) : XL P ops n md (⟨some r, .load T x, ty, ps, af, g⟩ :: l) E w := by
 refine XL_q (v := c) hw ?_ rfl hn h
 intro w' hb ρ hρ
 have hcell' : w'.cell? ⟨b, o, none⟩ = some c := by rw [hb.cell (p := ⟨b, o, none⟩) (cell_lt hcell)]; exact hcell
 simp [execOp, hρ x _ hx, Instr.loadAt, Instr.sureAddr, loadVar, run_isAgg hT ho, load, Sem.run, hcell']
theorem WL_storeD {k : Int} {a : d.ty.den} {b off cap fo : Nat} {c : Value} {cs' : List Value} {get : d.ty.den → d'.ty.den} {put : d.ty.den → d'.ty.den → d.ty.den} {z : d'.ty.den} (H : Holds M w0 w (Rs ++ dpR e d v cs xs F :: Γ) G) (hg : geti xs k = some a) (hv : v = .slice (some ⟨b, off, none⟩) xs.length cap)
  (hf : Foc d d' fo get put) (hb : DBlt Rs d' cs' z) (hcs : c.cells.toList = cs') (hi : (P.info? T).map (·.size) = some d'.ty.size)
  (hw : wantedE ops E ⟨none, .store T x y, ty, ps, af, g⟩ = some true) (hx : ev E x = some (.pointer (some ⟨b, off + k.toNat * d.ty.size + fo, none⟩))) (hy : ev E y = some c)
  (h : ∀ cs2 F2 w', Holds M w0 w' (dpR e d v cs2 (xs.set k.toNat (put a z)) F2 :: Γ) G → XL P ops n (.seq Q) l E w') :
  XL P ops n (.seq Q) (⟨none, .store T x y, ty, ps, af, g⟩ :: l) E w := by
 have hz := getE_of_geti hg
 have hlt := (geti_lt hg).2
 obtain ⟨ti, hi, hs⟩ := Option.map_eq_some_iff.1 hi
 have H' : Holds M w0 w ((Rs ++ [dpR e d v cs xs F]) ++ Γ) G := by simpa using H
 obtain ⟨L, h1, h2, h3⟩ := H'.ctx
 rw [List.append_assoc] at h1
 obtain ⟨L1, L2, rfl, e1, e2⟩ := List.map_eq_append_iff.1 h1
 obtain ⟨s1, s2⟩ := h2.app_inv
 obtain ⟨a1, a2, a3⟩ := h3.app_inv
 obtain ⟨L3, L4, rfl, e3, e4⟩ := List.map_eq_append_iff.1 e1
 obtain ⟨s3, s4⟩ := s1.app_inv
 obtain ⟨a4, a5, a6⟩ := a1.app_inv
 obtain ⟨S, L5, rfl, e5⟩ := map_cons_inv e4
 obtain ⟨dr, dn⟩ := hb w L3 e3 s3 a4
 obtain ⟨_, _, hn, F', g1, g2, g3⟩ := s4.1
 have hcross : ∀ k ∈ Rs.flatMap Res.own, k ∉ F := fun k hk hk' => by
  obtain ⟨f, hf', hkf⟩ := (mem_flat_own e3).1 hk
  exact (a6 f hf' _ List.mem_cons_self).1 k hkf hk'
 obtain ⟨c1, cm, c2, F1, Fm, F2, rfl, h5, rfl, h6, h7⟩ := RepL.foc hf k.toNat g2 hz
 have g1' := g1
 obtain ⟨rfl, cur, hgg, hnc, hcm, hcz, htk⟩ := ownsRow_at g1 hv
 have hlcs := g1'.1
 have hlm := h6.length
 have hlc' := dr.length
 have hone := dr.one
 rw [g3] at hn
 obtain ⟨n1, n2, n3⟩ := nodup_mid hn
 have hvb : v.ownBlock.toList = [b] := by rw [hv]; rfl
 have hbF : b ∈ F := by rw [g3, hvb]; simp
 have hpos : (c1 ++ cs' ++ c2).length = (c1 ++ cm ++ c2).length := by simp [hlm, hlc']
 have hcap : xs.length * d.ty.size ≤ cap * d.ty.size := Nat.mul_le_mul_right _ hnc
 have hlen2 : c1.length + cm.length + c2.length = xs.length * d.ty.size := by rw [← hlcs]; simp; omega
 have hbnd : k.toNat * d.ty.size + fo + cs'.length ≤ xs.length * d.ty.size := by omega
 have hrun := run_storeCells_at P b (k.toNat * d.ty.size + fo) e cs' 0 cur w hgg (by rw [hcz]; omega) hone
 simp only [Nat.add_zero] at hrun
 have hstv : (storeVar T ⟨b, 0 + k.toNat * d.ty.size + fo, none⟩ c).run P w = .ok () (w.setRow b (cur.toList.take (k.toNat * d.ty.size + fo) ++ cs' ++ cur.toList.drop (k.toNat * d.ty.size + fo + cs'.length)).toArray) := by
  have hsz : c.cells.size = ti.size := by rw [hs, ← hlc', ← hcs]; simp
  simp [storeVar, sizeOf, typeInfo, hi, hsz, hcs, hrun]
 refine WL_do (w' := w.setRow b (cur.toList.take (k.toNat * d.ty.size + fo) ++ cs' ++ cur.toList.drop (k.toNat * d.ty.size + fo + cs'.length)).toArray) hw (fun ρ hρ => ?_) rfl (h (c1 ++ cs' ++ c2) (v.ownBlock.toList ++ (F1 ++ Rs.flatMap Res.own ++ F2)) (w.setRow b (cur.toList.take (k.toNat * d.ty.size + fo) ++ cs' ++ cur.toList.drop (k.toNat * d.ty.size + fo + cs'.length)).toArray) (Holds.updN H' fun M1 M2 _ _ _ _ _ _ _ => ⟨?_, DpP.sit ⟨?_, F1 ++ Rs.flatMap Res.own ++ F2, ?_, ?_, rfl⟩, fun j hj => .inl ?_⟩))
 ·simp only [Nat.zero_add] at hstv
  simp [execOp, hρ x _ hx, hρ y _ hy, Instr.storeAt, Instr.sureAddr, hstv]
 ·refine ⟨rfl, rfl, rfl, by simp [World.setRow], fun k hk hm => setRow_other w b k _ fun e1 => hm ?_⟩
  subst e1
  exact List.mem_flatMap.2 ⟨dpR e d v (c1 ++ cm ++ c2) xs F, by simp, hbF⟩
 ·exact nodup_mid' n1 dn (fun j hj hj' => hcross j hj (by
   rw [g3]
   simp only [List.mem_append] at hj' ⊢
   rcases hj' with hj' | hj' | hj' <;> simp [hj']))
 ·have := ownsRow_splice (w := w) (size := d.ty.size) (off := k.toNat * d.ty.size + fo) (vs := cs') hgg (by rw [hlcs]) hnc hcm hcz htk (by omega)
  rw [hv, List.length_set]
  have e1 : (c1 ++ cm ++ c2).take (k.toNat * d.ty.size + fo) ++ cs' ++ (c1 ++ cm ++ c2).drop (k.toNat * d.ty.size + fo + cs'.length) = c1 ++ cs' ++ c2 := splice_mid h5 (by rw [List.length_append, h5, hlm, hlc'])
  rw [e1] at this
  exact this
 ·refine h7 _ cs' z _ (fun j hj => setRow_other w b j _ fun e1 => ?_) (dr.keep fun j hj => setRow_other w b j _ fun e1 => ?_)
  ·subst e1
   have := (List.nodup_append.1 n1).2.2 j (by rw [hvb]; simp) j hj
   exact this rfl
  ·subst e1; exact hcross j hj hbF
 ·have e1 : (dpR e d v (c1 ++ cs' ++ c2) (xs.set k.toNat (put a z)) (v.ownBlock.toList ++ (F1 ++ Rs.flatMap Res.own ++ F2))).own = v.ownBlock.toList ++ (F1 ++ Rs.flatMap Res.own ++ F2) := rfl
  rw [e1] at hj
  rw [List.flatMap_append, List.mem_append]
  have e2 : [dpR e d v (c1 ++ cm ++ c2) xs F].flatMap Res.own = F := by simp [dpR, Res.own]
  rw [e2, g3]
  simp only [List.mem_append] at hj ⊢
  rcases hj with hj | (hj | hj) | hj
  ·exact .inr (.inl hj)
  ·exact .inr (.inr (.inl (.inl hj)))
  ·exact .inl hj
  ·exact .inr (.inr (.inr hj))
theorem WL_storeHole {e' : TypeId} {t' : Ty} {pos k : Nat} {pu : List t'.den → d.ty.den} {yy : List t'.den} {v' : Value} {Fh : List Nat} {b off cap : Nat} (hp : plainT t' = true)
  (H : Holds M w0 w (.sl e' t' v' yy :: holeR e d (.sl e' (.leaf t')) v cs pos xs k pu Fh :: Γ) G) (hv : v = .slice (some ⟨b, off, none⟩) xs.length cap) (hi : (P.info? T).map (·.size) = some 1)
  (hw : wantedE ops E ⟨none, .store T x y, ty, ps, af, g⟩ = some true) (hx : ev E x = some (.pointer (some ⟨b, off + pos, none⟩))) (hy : ev E y = some v')
  (h : ∀ cs2 F2 w', Holds M w0 w' (dpR e d v cs2 (xs.set k (pu yy)) F2 :: Γ) G → XL P ops n (.seq Q) l E w') :
  XL P ops n (.seq Q) (⟨none, .store T x y, ty, ps, af, g⟩ :: l) E w := by
 obtain ⟨ti, hi, hs⟩ := Option.map_eq_some_iff.1 hi
 obtain ⟨S, L, h1, hs', ht, ha⟩ := H.ctx.cons_inv
 obtain ⟨S2, L2, rfl, h2⟩ := map_cons_inv (by simpa using h1)
 obtain ⟨cells, i1, i2⟩ := hs'
 obtain ⟨_, _, n1, c1, vc, c2, Fa, Fb, rfl, h5, h6, h7, h8⟩ := ht.1
 obtain ⟨a1, a2, a3⟩ := ha.cons_inv
 have hd := (a1 _ List.mem_cons_self).1
 have h6' := h6
 obtain ⟨rfl, cur, hgg, hnc, hcm, hcz, htk⟩ := ownsRow_at h6 hv
 have hlcs := h6'.1
 have hvb : v.ownBlock.toList = [b] := by rw [hv]; rfl
 have hcap : xs.length * d.ty.size ≤ cap * d.ty.size := Nat.mul_le_mul_right _ hnc
 have hlen2 : c1.length + 1 + c2.length = xs.length * d.ty.size := by rw [← hlcs]; simp; omega
 have hbF : b ∈ Fh := by rw [h7, hvb]; simp
 obtain ⟨o1, o2⟩ := ownsRow_one i1
 have hrun := run_storeCells_at P b pos e [v'] 0 cur w hgg (by rw [hcz]; simp; omega) (fun u hu => by simp at hu; subst hu; exact o1)
 simp only [Nat.add_zero] at hrun
 have hstv : (storeVar T ⟨b, 0 + pos, none⟩ v').run P w = .ok () (w.setRow b (cur.toList.take pos ++ [v'] ++ cur.toList.drop (pos + [v'].length)).toArray) := by
  have hsz : v'.cells.size = ti.size := by rw [hs, o2]; rfl
  simp only [Nat.zero_add]
  simp [storeVar, sizeOf, typeInfo, hi, hsz, o2, hs, hrun]
 refine WL_do (w' := w.setRow b (cur.toList.take pos ++ [v'] ++ cur.toList.drop (pos + [v'].length)).toArray) hw (fun ρ hρ => ?_) rfl (h (c1 ++ [v'] ++ c2) (v.ownBlock.toList ++ (Fa ++ v'.ownBlock.toList ++ Fb)) (w.setRow b (cur.toList.take pos ++ [v'] ++ cur.toList.drop (pos + [v'].length)).toArray) (Holds.updN (Rs := [.sl e' t' v' yy, holeR e d (.sl e' (.leaf t')) v (c1 ++ [vc] ++ c2) pos xs k pu Fh]) H fun M1 M2 _ _ _ _ _ _ _ => ⟨?_, DpP.sit ⟨?_, Fa ++ v'.ownBlock.toList ++ Fb, ?_, ?_, rfl⟩, fun j hj => .inl ?_⟩))
 ·simp only [Nat.zero_add] at hstv
  simp [execOp, hρ x _ hx, hρ y _ hy, Instr.storeAt, Instr.sureAddr, hstv]
 ·refine ⟨rfl, rfl, rfl, by simp [World.setRow], fun j hj hm => setRow_other w b j _ fun e1 => hm ?_⟩
  subst e1
  exact List.mem_flatMap.2 ⟨holeR e d (.sl e' (.leaf t')) v (c1 ++ [vc] ++ c2) pos xs k pu Fh, by simp, hbF⟩
 ·rw [h7] at n1
  exact nodup_mid' n1 (nodup_ownBlock v') (fun j hj => by rw [← h7]; exact hd j hj)
 ·have := ownsRow_splice (w := w) (size := d.ty.size) (off := pos) (vs := [v']) hgg (by rw [hlcs]) hnc hcm hcz htk (by simp; omega)
  rw [hv, List.length_set]
  have e1 : (c1 ++ [vc] ++ c2).take pos ++ [v'] ++ (c1 ++ [vc] ++ c2).drop (pos + [v'].length) = c1 ++ [v'] ++ c2 := splice_mid h5 (by rw [List.length_append, h5]; rfl)
  rw [e1] at this
  exact this
 ·rw [h7] at n1
  refine h8 _ v' yy _ (fun j hj => setRow_other w b j _ fun e1 => ?_) (DRep.keep (d := .sl e' (.leaf t')) ⟨v', cells, [], rfl, i1, plain_leaf hp i2, by simp⟩ fun j hj => setRow_other w b j _ fun e1 => ?_)
  ·subst e1
   exact (List.nodup_append.1 n1).2.2 j (by rw [hvb]; simp) j hj rfl
  ·subst e1; exact hd j hj hbF
 ·have e1 : (dpR e d v (c1 ++ [v'] ++ c2) (xs.set k (pu yy)) (v.ownBlock.toList ++ (Fa ++ v'.ownBlock.toList ++ Fb))).own = v.ownBlock.toList ++ (Fa ++ v'.ownBlock.toList ++ Fb) := rfl
  rw [e1] at hj
  have e2 : [Res.sl e' t' v' yy, holeR e d (.sl e' (.leaf t')) v (c1 ++ [vc] ++ c2) pos xs k pu Fh].flatMap Res.own = v'.ownBlock.toList ++ Fh := by simp [Res.own, holeR]
  rw [e2, h7]
  simp only [List.mem_append] at hj ⊢
  rcases hj with hj | (hj | hj) | hj
  ·exact .inr (.inl hj)
  ·exact .inr (.inr (.inl hj))
  ·exact .inl hj
  ·exact .inr (.inr (.inr hj))
theorem WL_appendD {zv : Value} {by_ : Nat} (H : Holds M w0 w (dpR e d v cs xs F :: dpR e d u ds ys F1 :: Γ) G) (hz : appO xs ys = some zs)
  (ht : P.underlying T = some (.slice e)) (hi : (P.info? e).map (fun i => (i.zero, i.size, i.bytes)) = some (some zv, d.ty.size, by_)) (hzs : zv.cells.size = d.ty.size) (hby : Nat.ble by_ 128 = true)
  (hw : wantedE ops E ⟨some r, .call ⟨.builtin .append, #[x, y], #[T, T]⟩, ty, ps, af, g⟩ = some true) (hx : ev E x = some v) (hy : ev E y = some u) (hn : Nat.blt r n = true)
  (h : ∀ v' cs2 F2 w', Holds M w0 w' (dpR e d v' cs2 zs F2 :: Γ) G → XL P ops n (.seq Q) l ((r, v') :: E) w') :
  XL P ops n (.seq Q) (⟨some r, .call ⟨.builtin .append, #[x, y], #[T, T]⟩, ty, ps, af, g⟩ :: l) E w := by
 have hby' : by_ ≤ 128 := by simpa using hby
 obtain ⟨i, hi, hz0, hsz, hbyt⟩ := info3 hi
 obtain ⟨hroom, rfl⟩ := appO_some hz
 obtain ⟨S, L, h1, hs, hs2, ha⟩ := H.ctx.cons_inv
 obtain ⟨S2, L2, rfl, h2⟩ := map_cons_inv (by simpa using h1)
 obtain ⟨a1, a2, a3⟩ := ha.cons_inv
 obtain ⟨_, _, hn1, Fa, g1, g2, g3⟩ := hs
 obtain ⟨_, _, hn2, Fb, g4, g5, g6⟩ := hs2.1
 have hdj : ∀ k ∈ F, k ∉ F1 := fun k hk hk' => (a1 _ List.mem_cons_self).1 k hk hk'
 have hlcs := g1.1
 have hpos := d.ty.size_pos
 have key : ∃ v' w', (Builtin.append_ #[T, T] ty #[v, u]).run P w = .ok v' w' ∧ w'.ownsRow 0 e d.ty.size v' (xs.length + ys.length) (cs ++ ds) ∧ Chg v.ownBlock.toList w w' ∧ (v'.ownBlock = v.ownBlock ∨ v'.ownBlock = some w.heap.size) := by
  obtain ⟨h5, h6⟩ := g4
  rcases h6 with ⟨rfl, h7⟩ | ⟨b, cap, cur, rfl, _, hgg, hnc, hcm, hcz, htk⟩
  ·have hcs0 : ds = [] := List.eq_nil_of_length_eq_zero (by rw [h5, h7]; simp)
   subst hcs0
   have hle : ∃ q c, v = .slice q xs.length c ∧ xs.length ≤ c := by
    obtain ⟨_, h8⟩ := g1
    rcases h8 with ⟨rfl, h9⟩ | ⟨b, cap, cur, rfl, _, _, h9, _⟩
    ·exact ⟨none, 0, by rw [h9], by omega⟩
    ·exact ⟨_, _, rfl, h9⟩
   obtain ⟨q, c, hv, hle⟩ := hle
   refine ⟨v, w, by rw [hv]; exact run_append_nothing' w ht hi q none _ _ _ hle, by rw [h7]; simpa using g1, Chg.refl _ _, .inl rfl⟩
  ·have hnews : ∀ j x, ds[j]? = some x → w.cell? ((⟨b, 0, none⟩ : Addr).add j) = some x := fun j x hj => by
    rw [Addr.add_none, Nat.zero_add]
    unfold World.cell?
    simp only [hgg]
    rw [← htk, List.getElem?_take] at hj
    split at hj
    ·simpa using hj
    ·cases hj
   have hone : ∀ x ∈ ds, x.oneCell' = true := g5.one (fun c x F h => DRep.one h)
   have hbytes : (xs.length + ys.length) * i.bytes ≤ 140737488355328 := by
    have : (xs.length + ys.length) * i.bytes ≤ 1099511627776 * 128 := Nat.mul_le_mul hroom (by omega)
    omega
   obtain ⟨v', w', hrun, hown, hgr, _, hblk⟩ := run_append_own_at (P := P) (w := w) 0 T ty e i zv d.ty.size i.bytes ht hi hz0 hsz rfl hzs hpos v xs.length cs g1 ⟨b, 0, none⟩ ys.length cap ds h5 hnews hone (by simp only [maxLen]; omega) hbytes (Nat.zero_le _)
   exact ⟨v', w', hrun, hown, grown_chg hgr, hblk⟩
 obtain ⟨v', w', hrun, hown, hchg, hblk⟩ := key
 have hFlt : ∀ k ∈ F, k < w.heap.size := DpP.lt ⟨hn1, Fa, g1, g2, g3⟩
 have hF1lt : ∀ k ∈ F1, k < w.heap.size := DpP.lt ⟨hn2, Fb, g4, g5, g6⟩
 have hFa : ∀ k ∈ Fa, k ∈ F := fun k hk => by rw [g3]; simp [hk]
 have hFb : ∀ k ∈ Fb, k ∈ F1 := fun k hk => by rw [g6]; simp [hk]
 have hvF : ∀ k ∈ v.ownBlock.toList, k ∈ F := fun k hk => by rw [g3]; exact List.mem_append_left _ hk
 have hn1' := hn1
 rw [g3] at hn1'
 obtain ⟨m1, m2, m3⟩ := List.nodup_append.1 hn1'
 have hn2' := hn2
 rw [g6] at hn2'
 obtain ⟨m4, m5, m6⟩ := List.nodup_append.1 hn2'
 have hv'o : ∀ k ∈ v'.ownBlock.toList, k ∈ v.ownBlock.toList ∨ w.heap.size ≤ k := fun k hk => by
  rcases hblk with h | h
  ·rw [h] at hk; exact .inl hk
  ·rw [h] at hk; simp at hk; right; omega
 refine WL_run hw (fun ρ hρ => ?_) rfl hn (h v' (cs ++ ds) (v'.ownBlock.toList ++ (Fa ++ Fb)) w' (Holds.updN (Rs := [dpR e d v cs xs F, dpR e d u ds ys F1]) H fun M1 M2 _ _ _ _ _ _ _ => ⟨?_, DpP.sit ⟨?_, Fa ++ Fb, by rw [List.length_append]; exact hown, ?_, rfl⟩, fun j hj => ?_⟩))
 ·simp [execOp, resolve, invoke, builtin, hρ x _ hx, hρ y _ hy, hrun]
 ·refine ⟨hchg.os, hchg.tape, hchg.output, hchg.size, fun k hk hm => hchg.block k hk fun hk2 => hm ?_⟩
  exact List.mem_flatMap.2 ⟨dpR e d v cs xs F, by simp, hvF k hk2⟩
 ·refine List.nodup_append.2 ⟨nodup_ownBlock v', List.nodup_append.2 ⟨m2, m5, fun a ha b hb e1 => ?_⟩, fun a ha b hb e1 => ?_⟩
  ·subst e1; exact hdj a (hFa a ha) (hFb a hb)
  ·subst e1
   rcases hv'o a ha with h | h
   ·rcases List.mem_append.1 hb with hb | hb
    ·exact m3 a h a hb rfl
    ·exact hdj a (hvF a h) (hFb a hb)
   ·rcases List.mem_append.1 hb with hb | hb
    ·have := hFlt a (hFa a hb); omega
    ·have := hF1lt a (hFb a hb); omega
 ·refine RepL.append (g2.imp fun c x F' hF hR => hR.keep fun k hk => hchg.block k (hFlt k (hFa k (hF k hk))) fun hk2 => m3 k hk2 k (hF k hk) rfl) (g5.imp fun c x F' hF hR => hR.keep fun k hk => hchg.block k (hF1lt k (hFb k (hF k hk))) fun hk2 => hdj k (hvF k hk2) (hFb k (hF k hk)))
 ·have e1 : (dpR e d v' (cs ++ ds) (xs ++ ys) (v'.ownBlock.toList ++ (Fa ++ Fb))).own = v'.ownBlock.toList ++ (Fa ++ Fb) := rfl
  rw [e1] at hj
  have e2 : [dpR e d v cs xs F, dpR e d u ds ys F1].flatMap Res.own = F ++ F1 := by simp [dpR, Res.own]
  rw [e2]
  rcases List.mem_append.1 hj with hj | hj
  ·rcases hv'o j hj with h | h
   ·exact .inl (List.mem_append_left _ (hvF j h))
   ·exact .inr h
  ·rcases List.mem_append.1 hj with hj | hj
   ·exact .inl (List.mem_append_left _ (hFa j hj))
   ·exact .inl (List.mem_append_right _ (hFb j hj))
theorem WL_makeD {c : Value} {by_ : Nat} {zx : d.ty.den} {k : IntKind} {m : Int} (H : Holds M w0 w Γ G)
  (hm : mkO zx m = some zs) (ht : P.underlying T = some (.slice e)) (hi : (P.info? e).map (fun i => (i.zero, i.size, i.bytes)) = some (some c, d.ty.size, by_)) (hzc : c.cells.size = d.ty.size) (hz : DBlt [] d c.cells.toList zx) (hby : Nat.ble by_ 128 = true)
  (hw : wantedE ops E ⟨some r, .makeSlice T x y, ty, ps, af, g⟩ = some true) (hx : ev E x = some (.int k m)) (hy : ev E y = some (.int k m)) (hn : Nat.blt r n = true)
  (h : ∀ v' cs' F' w', Holds M w0 w' (dpR e d v' cs' zs F' :: Γ) G → XL P ops n (.seq Q) l ((r, v') :: E) w') :
  XL P ops n (.seq Q) (⟨some r, .makeSlice T x y, ty, ps, af, g⟩ :: l) E w := by
 obtain ⟨h0, hr, rfl⟩ := mkO_some hm
 obtain ⟨i, hi, hz0, hsz, hbyt⟩ := info3 hi
 have hby' : by_ ≤ 128 := by simpa using hby
 have hb : i.bytes * m.toNat ≤ 281474976710656 := by
  have : i.bytes * m.toNat ≤ 128 * 1099511627776 := Nat.mul_le_mul (by omega) hr
  omega
 obtain ⟨w', hrun, hown, hg⟩ := run_make_full (P := P) w 0 T e i c d.ty.size ht hi hz0 hsz k k m.toNat hb (by simp only [maxLen]; omega) (Nat.zero_le _)
 have hbelow : Below w.heap.size w w' := ⟨hg.os, hg.tape, hg.output, hg.size, fun k hk => hg.block k hk (by simp)⟩
 have hmm : ((m.toNat : Nat) : Int) = m := by omega
 refine WL_run (v := .slice (some ⟨w.heap.size, 0, none⟩) m.toNat m.toNat) (w' := w') hw (fun ρ hρ => ?_) rfl hn (h _ _ [w.heap.size] w' (H.add fun L h1 h2 h3 => ⟨[], hbelow, DpP.sit ⟨by simp, [], by rw [List.length_replicate]; exact hown, ?_, rfl⟩, (fun k hk => ?_), (fun k hk => by cases hk), (fun k _ hk => by cases hk)⟩))
 ·rw [hmm] at hrun
  simp [execOp, hρ x _ hx, hρ y _ hy, hrun]
 ·rw [← hzc, made_list]
  exact RepL.flat_replicate (hz w' [] rfl trivial ⟨List.Pairwise.nil, fun f hf => by cases hf⟩).1 _
 ·have e1 : k ∈ [w.heap.size] := hk
  simp at e1; omega
def DBltL (Rs : List Res) (d : DT) (vs : List Value) (xs : List d.ty.den) : Prop :=
 ∀ w L, L.map (·.1) = Rs → SitAll w L → ApartL L → RepL (DRep w d) (vs.flatMap fun v => v.cells.toList) xs (Rs.flatMap Res.own) ∧ (Rs.flatMap Res.own).Nodup ∧ vs.length = xs.length ∧ ∀ v ∈ vs, v.cells.size = d.ty.size
theorem DBltL.one {c : Value} {cs' : List Value} {z : d.ty.den} (h : DBlt Rs d cs' z) (hc : c.cells.toList = cs') : DBltL Rs d [c] [z] := fun w L h1 h2 h3 => by
 obtain ⟨h4, h5⟩ := h w L h1 h2 h3
 refine ⟨⟨cs', [], Rs.flatMap Res.own, [], by simp [hc], by simp, h4, rfl, rfl⟩, h5, rfl, fun v hv => ?_⟩
 simp at hv; subst hv
 rw [← h4.length, ← hc]; simp
theorem WL_buildD {c : Value} {by_ len : Nat} {args : List Operand} {vs : List Value} (H : Holds M w0 w (Rs ++ Γ) G) (hr : DBltL Rs d vs xs)
  (ht : P.underlying T = some (.slice e)) (hi : (P.info? e).map (fun i => (i.zero, i.size, i.bytes)) = some (some c, d.ty.size, by_)) (hz : c.cells.size = d.ty.size)
  (hlen : Nat.ble (len * d.ty.size) 16777216 = true) (hvs : evs E args = some vs) (hl : Nat.beq len xs.length = true)
  (hw : wantedE ops E ⟨some r, .buildSlice T len (partsFrom 0 args).toArray, ty, ps, af, g⟩ = some true) (hn : Nat.blt r n = true)
  (h : ∀ v' cs' F' w', Holds M w0 w' (dpR e d v' cs' xs F' :: Γ) G → XL P ops n (.seq Q) l ((r, v') :: E) w') :
  XL P ops n (.seq Q) (⟨some r, .buildSlice T len (partsFrom 0 args).toArray, ty, ps, af, g⟩ :: l) E w := by
 have hlen' : len * d.ty.size ≤ 16777216 := by simpa using hlen
 have hl' : len = xs.length := Nat.eq_of_beq_eq_true hl
 obtain ⟨L, h1, h2, h3⟩ := H.ctx
 rw [List.append_assoc] at h1
 obtain ⟨L1, L2, rfl, e1, e2⟩ := List.map_eq_append_iff.1 h1
 obtain ⟨s1, s2⟩ := h2.app_inv
 obtain ⟨a1, a2, a3⟩ := h3.app_inv
 obtain ⟨g1, g2, g3, g4⟩ := hr w L1 e1 s1 a1
 have hpos := d.ty.size_pos
 have hle : len ≤ 16777216 := Nat.le_trans (Nat.le_mul_of_pos_right _ hpos) hlen'
 have hlenc := g1.length (fun c x F h => DRep.length h)
 have hFlt : ∀ k ∈ Rs.flatMap Res.own, k < w.heap.size := fun k hk => by
  obtain ⟨f, hf, hkf⟩ := (mem_flat_own e1).1 hk
  exact (s1.lt f hf).1 k hkf
 have hrow : World.ownsRow { w with heap := w.heap.push (.cells (vs.flatMap fun v => v.cells.toList).toArray e) } 0 e d.ty.size (.slice (some ⟨w.heap.size, 0, none⟩) len len) xs.length (vs.flatMap fun v => v.cells.toList) := by
  refine ⟨hlenc, .inr ⟨w.heap.size, len, (vs.flatMap fun v => v.cells.toList).toArray, by rw [hl'], Nat.zero_le _, by simp, by omega, by simp only [maxLen]; omega, ?_, ?_⟩⟩
  ·rw [List.size_toArray, hlenc, hl']
  ·show List.take _ (vs.flatMap fun v => v.cells.toList) = _
   rw [← hlenc, List.take_length]
 refine WL_run hw (fun ρ hρ => ?_) rfl hn (h (.slice (some ⟨w.heap.size, 0, none⟩) len len) (vs.flatMap fun v => v.cells.toList) (w.heap.size :: Rs.flatMap Res.own) { w with heap := w.heap.push (.cells (vs.flatMap fun v => v.cells.toList).toArray e) } (Holds.updN H fun M1 M2 _ _ _ _ _ _ _ => ⟨⟨rfl, rfl, rfl, by simp, fun k hk _ => push_below.block k hk⟩, DpP.sit ⟨List.nodup_cons.2 ⟨fun hm => by have := hFlt _ hm; omega, g2⟩, Rs.flatMap Res.own, hrow, g1.imp fun c x F' hF hR => hR.keep fun k hk => push_below.block k (hFlt k (hF k hk)), rfl⟩, fun j hj => ?_⟩))
 ·have hmap := args_of hρ hvs
  have hmap2 : ((partsFrom 0 args).map fun p => (p.1, ρ p.2)) = (vs.zipIdx 0).map fun p => (p.2, p.1) := partsFrom_map args vs 0 hmap
  have hrun := build_run (P := P) (w := w) (t := d.ty) (vs := vs) (parts := ((partsFrom 0 args).map fun p => (p.1, ρ p.2)).toArray) ht hi hz hlen' g4 (by omega) (by simp [hmap2])
  simp [execOp, hrun]
 ·have e1 : j ∈ w.heap.size :: Rs.flatMap Res.own := hj
  rcases List.mem_cons.1 e1 with h | h
  ·right; omega
  ·exact .inl h
end walk
end Go.Proofs.YtkhnponakhabdaaGreatDoor
