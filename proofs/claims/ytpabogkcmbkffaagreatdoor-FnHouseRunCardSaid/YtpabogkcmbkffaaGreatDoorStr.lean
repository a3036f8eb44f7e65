/- Strings: comparison, joining, an element, a part; bytes turned to a string. Own work, over any program. -/
import Derived.Test.YtpabogkcmbkffaaGreatDoorRany
import Derived.Laws.Strings
import Derived.Laws.BytesArg
set_option linter.unusedVariables false
namespace Go.Proofs.YtpabogkcmbkffaaGreatDoor
open Go Go.RowKit
variable {P : Program}
section walk
variable {ops : Array Oper} {Q : Exit → Act → World → Prop} {n : Nat} {md : Md} {l : List Oper} {E : Env} {o : Oper} {ty : TypeId} {ps : String} {af : Array Edge} {g : Option (Nat × Bool)} {x y z : Operand} {T U : TypeId} {w : World}
/-! ### arrays: a variable that is an array is seen as a row that the call owns -/
section arr
variable {M : List Nat} {w0 w' : World} {Γ Γ' G : List Res} {t : Ty} {v : Value} {xs ys : List t.den} {e : TypeId} {d : Nat}
theorem Holds.bx_sl {b : Nat} {Tb : TypeId} {cs : List Value} {N : Nat} (H : Holds M w0 w (.bx b Tb cs :: Γ) G) (hr : ∀ w, RepL (Rep w t) cs xs []) (hN : xs.length = N) (hmax : Nat.ble N 1000000 = true) :
    Holds M w0 w (.sl Tb t (.slice (some ⟨b, 0, none⟩) N N) xs :: Γ) G := by
  subst hN
  have hmax : xs.length ≤ 1000000 := by simpa using hmax
  refine H.upd fun S L h1 hs h3 h4 => ⟨[], Chg.refl _ _, ⟨cs, ⟨(hr w).length (fun c x F h => Rep.length h), .inr ⟨b, xs.length, cs.toArray, rfl, Nat.zero_le _, hs.2, Nat.le_refl _, by simp [maxLen]; omega, ?_, ?_⟩⟩, hr w⟩, ?_, (fun k hk => by cases hk), (fun k _ hk => by cases hk)⟩
  · have := (hr w).length (fun c x F h => Rep.length h)
    simpa using this
  · have := (hr w).length (fun c x F h => Rep.length h)
    rw [← this]; simp
  · intro k hk
    left
    simpa [Res.own, Value.ownBlock] using hk
theorem XL_indexA {b0 N : Nat} {k : Int} {kk : IntKind} {u : t.den} (H : Ctx w Γ) (hh : Has Γ t v xs) (hv0 : v = .slice (some ⟨b0, 0, none⟩) N N) (hg : geti xs k = some u) (hT : P.underlying T = some (.array N e)) (hi : (P.info? e).map (·.size) = some t.size)
    (hw : wantedE ops E ⟨some d, .indexAddr T x y, ty, ps, af, g⟩ = some true) (hx : ev E x = some (.pointer (some ⟨b0, 0, none⟩))) (hy : ev E y = some (.int kk k)) (hn : Nat.blt d n = true)
    (h : ∀ b off cap, v = .slice (some ⟨b, off, none⟩) xs.length cap → XL P ops n md l ((d, .pointer (some ⟨b, off + k.toNat * t.size, none⟩)) :: E) w) : XL P ops n md (⟨some d, .indexAddr T x y, ty, ps, af, g⟩ :: l) E w := by
  obtain ⟨b, off, cap, hv⟩ := H.isAt hh hg
  have h0 := (geti_lt hg).1
  have hlt := (geti_lt hg).2
  have hvv := hv
  rw [hv0] at hvv
  injection hvv with e1 e2 e3
  injection e1 with e1
  injection e1 with e4 e5 e6
  obtain ⟨i, hi, hs⟩ := Option.map_eq_some_iff.1 hi
  refine XL_q (v := .pointer (some ⟨b, off + k.toNat * t.size, none⟩)) hw ?_ rfl hn (h b off cap hv)
  intro w' _ ρ hρ
  have hk : k < (N : Int) := by omega
  subst e4
  subst e5
  simp [execOp, hρ x _ hx, hρ y _ hy, Instr.indexAt, Instr.sureAddr, asIntOf, run_underlying hT, h0, hk, sizeOf, typeInfo, hi, hs, Addr.add_none]
theorem XL_sliceA {b0 N : Nat} {lo hi : Option Operand} {lv hv : Int} (H : Ctx w Γ) (hh : Has Γ t v xs) (hv0 : v = .slice (some ⟨b0, 0, none⟩) N N) (hs : subO xs lv hv = some ys) (hT : P.underlying T = some (.array N e)) (hsz : (P.info? e).map (·.size) = some t.size)
    (hlo : bndE E lo 0 lv) (hhi : bndE E hi xs.length hv)
    (hw : wantedE ops E ⟨some d, .slice T x lo hi none, ty, ps, af, g⟩ = some true) (hx : ev E x = some (.pointer (some ⟨b0, 0, none⟩))) (hn : Nat.blt d n = true)
    (h : XL P ops n md l ((d, subV t.size v lv.toNat hv.toNat) :: E) w) : XL P ops n md (⟨some d, .slice T x lo hi none, ty, ps, af, g⟩ :: l) E w := by
  obtain ⟨p, cap, hv1, hcap⟩ := H.isLen hh
  rw [hv0] at hv1
  injection hv1 with e1 e2 e3
  obtain ⟨h0, h1, h2, _⟩ := subO_some hs
  obtain ⟨ti, hi2, hsz⟩ := Option.map_eq_some_iff.1 hsz
  subst hv0
  refine XL_q hw ?_ rfl hn h
  intro w' _ ρ hρ
  have hhb : ∀ k : IntKind, (Instr.sliceBound (.int k hv) N .sliceAlen).run P w' = .ok hv.toNat w' := fun k => by
    have : 0 ≤ hv ∧ hv ≤ (N : Int) := by omega
    simp [Instr.sliceBound, asIntOf, this]
  have hlb : ∀ k : IntKind, (Instr.sliceBound (.int k lv) hv.toNat .sliceB).run P w' = .ok lv.toNat w' := fun k => by
    have hn0 : ((hv.toNat : Nat) : Int) = hv := Int.toNat_of_nonneg (by omega)
    have : 0 ≤ lv ∧ lv ≤ hv := by omega
    simp only [Instr.sliceBound, asIntOf, hn0]
    simp [this]
  cases lo with
  | none =>
    simp only [bndE] at hlo
    subst hlo
    cases hi with
    | none =>
      simp only [bndE] at hhi
      subst hhi
      by_cases hc : N = 0 <;> simp [execOp, hρ x _ hx, Instr.sliceAt, Instr.sureAddr, run_underlying hT, Instr.sliceBounds, sizeOf, typeInfo, hi2, hsz, subV, hc, e2.symm, Addr.add_none]
    | some xh =>
      obtain ⟨kh, hxh⟩ := hhi
      by_cases hc : N = 0 <;> simp [execOp, hρ x _ hx, hρ xh _ hxh, Instr.sliceAt, Instr.sureAddr, run_underlying hT, Instr.sliceBounds, sizeOf, typeInfo, hi2, hsz, subV, hc, hhb, Addr.add_none]
      · subst hc; have := hhb kh; rw [this]; rfl
  | some xl =>
    obtain ⟨kl, hxl⟩ := hlo
    cases hi with
    | none =>
      simp only [bndE] at hhi
      subst hhi
      have hlb' : ∀ k : IntKind, (Instr.sliceBound (.int k lv) N .sliceB).run P w' = .ok lv.toNat w' := fun k => by have := hlb k; rw [← e2] at this; simpa using this
      simp [execOp, hρ x _ hx, hρ xl _ hxl, Instr.sliceAt, Instr.sureAddr, run_underlying hT, Instr.sliceBounds, sizeOf, typeInfo, hi2, hsz, subV, hlb', e2.symm, Addr.add_none]
      by_cases hc : N = lv.toNat
      · rw [if_pos hc, if_pos hc]
      · rw [if_neg hc, if_neg hc]
    | some xh =>
      obtain ⟨kh, hxh⟩ := hhi
      simp [execOp, hρ x _ hx, hρ xl _ hxl, hρ xh _ hxh, Instr.sliceAt, Instr.sureAddr, run_underlying hT, Instr.sliceBounds, sizeOf, typeInfo, hi2, hsz, subV, hhb, hlb, Addr.add_none]
      by_cases hc : N = lv.toNat
      · rw [if_pos hc, if_pos hc]
      · rw [if_neg hc, if_neg hc]
end arr
end walk
end Go.Proofs.YtpabogkcmbkffaaGreatDoor
