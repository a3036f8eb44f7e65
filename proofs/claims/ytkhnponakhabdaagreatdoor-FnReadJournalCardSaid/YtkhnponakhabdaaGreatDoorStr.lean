/- Strings: comparison, joining, an element, a part; bytes turned to a string. Own work, over any program. -/
import Derived.Test.YtkhnponakhabdaaGreatDoorRany
import Derived.Laws.Strings
import Derived.Laws.BytesArg
set_option linter.unusedVariables false
namespace Go.Proofs.YtkhnponakhabdaaGreatDoor
open Go Go.RowKit
variable {P : Program}
def strAdd (a b : List UInt8) : Option (List UInt8) := if room (a.length + b.length) then some (a ++ b) else none
theorem strAdd_some {a b u : List UInt8} (h : strAdd a b = some u) : a.length + b.length ≤ 1099511627776 ∧ u = a ++ b := by
 unfold strAdd at h
 split at h
 ·rename_i hr
  exact ⟨by simpa [room] using hr, (Option.some.inj h).symm⟩
 ·cases h
def byteAt (a : List UInt8) (k : Int) : Option Int := (geti a k).map fun b => ((b.toNat : Nat) : Int)
def bytesOf (xs : List Int) : List UInt8 := xs.map fun n => UInt8.ofNat n.toNat
theorem toList_str (l : List UInt8) : (⟨l.toArray⟩ : ByteArray).toList = l := by rw [ByteArray.toList_eq]
theorem size_str (l : List UInt8) : (⟨l.toArray⟩ : ByteArray).size = l.length := by simp [ByteArray.size]
section walk
variable {ops : Array Oper} {Q : Exit → Act → World → Prop} {n : Nat} {md : Md} {l : List Oper} {E : Env} {o : Oper} {ty : TypeId} {ps : String} {af : Array Edge} {g : Option (Nat × Bool)} {x y z : Operand} {T U : TypeId} {w : World}
theorem qt_seql {d : Option Nat} {a b : List UInt8} (hx : ev E x = some (strV a)) (hy : ev E y = some (strV b)) : Qt P ⟨d, .binOp .eql T x y U, ty, ps, af, g⟩ E w (.bool (a == b)) := fun w' _ ρ hρ => by
 simp [execOp, hρ x _ hx, hρ y _ hy, eqGuard, binOp, Op.stringOp, toList_str]
theorem qt_sneq {d : Option Nat} {a b : List UInt8} (hx : ev E x = some (strV a)) (hy : ev E y = some (strV b)) : Qt P ⟨d, .binOp .neq T x y U, ty, ps, af, g⟩ E w (.bool (a != b)) := fun w' _ ρ hρ => by
 simp [execOp, hρ x _ hx, hρ y _ hy, eqGuard, binOp, Op.stringOp, toList_str, bne]
theorem append_str (a b : List UInt8) : (⟨a.toArray⟩ : ByteArray) ++ ⟨b.toArray⟩ = ⟨(a ++ b).toArray⟩ := by
 rw [ByteArray.ext_iff, ByteArray.data_append]
 simp
theorem qt_sadd {d : Option Nat} {a b u : List UInt8} (hx : ev E x = some (strV a)) (hy : ev E y = some (strV b)) (hu : strAdd a b = some u) : Qt P ⟨d, .binOp .add T x y U, ty, ps, af, g⟩ E w (strV u) := fun w' _ ρ hρ => by
 obtain ⟨h1, rfl⟩ := strAdd_some hu
 have h2 : ¬ (((a.length + b.length : Nat) : Int) > IntKind.i64.max) := by simp [IntKind.max, IntKind.signed, IntKind.bits]; omega
 simp only [execOp, hρ x _ hx, hρ y _ hy, eqGuard, binOp, Op.stringOp, size_str, if_neg h2, append_str]
 rfl
theorem qt_sidx {d : Option Nat} {a : List UInt8} {kk : IntKind} {k u : Int} (hT : P.underlying T = some .string) (hx : ev E x = some (strV a)) (hy : ev E y = some (.int kk k)) (hu : byteAt a k = some u) : Qt P ⟨d, .index T x y, ty, ps, af, g⟩ E w (.int .u8 u) := fun w' _ ρ hρ => by
 obtain ⟨b, hb, rfl⟩ := Option.map_eq_some_iff.1 hu
 have h0 := (geti_lt hb).1
 have hlt := (geti_lt hb).2
 have hget : (⟨a.toArray⟩ : ByteArray)[k.toNat]? = some b := by
  unfold geti at hb
  rw [if_pos h0] at hb
  rw [← hb]
  have h1 : k.toNat < (⟨a.toArray⟩ : ByteArray).size := by rw [size_str]; exact hlt
  rw [getElem?_pos (⟨a.toArray⟩ : ByteArray) k.toNat h1, List.getElem?_eq_getElem hlt]
  rfl
 simp [execOp, hρ x _ hx, hρ y _ hy, Instr.index, asIntOf, run_underlying hT, h0, hget]
theorem extract_str (a : List UInt8) (i j : Nat) : (⟨a.toArray⟩ : ByteArray).extract i j = ⟨((a.take j).drop i).toArray⟩ := by
 rw [ByteArray.ext_iff, ByteArray.data_extract]
 simp [List.drop_take]
theorem qt_ssub {d : Option Nat} {lo hi : Option Operand} {a u : List UInt8} {lv hv : Int} (hT : P.underlying T = some .string) (hlo : bndE E lo 0 lv) (hhi : bndE E hi a.length hv) (hx : ev E x = some (strV a)) (hu : subO a lv hv = some u) : Qt P ⟨d, .slice T x lo hi none, ty, ps, af, g⟩ E w (strV u) := fun w' _ ρ hρ => by
 obtain ⟨h0, h1, h2, rfl⟩ := subO_some hu
 have hhb : ∀ k : IntKind, (Instr.sliceBound (.int k hv) a.length .sliceAlen).run P w' = .ok hv.toNat w' := fun k => by
  have : 0 ≤ hv ∧ hv ≤ (a.length : Int) := by omega
  simp [Instr.sliceBound, asIntOf, this]
 have hlb : ∀ k : IntKind, (Instr.sliceBound (.int k lv) hv.toNat .sliceB).run P w' = .ok lv.toNat w' := fun k => by
  have hn0 : ((hv.toNat : Nat) : Int) = hv := Int.toNat_of_nonneg (by omega)
  have : 0 ≤ lv ∧ lv ≤ hv := by omega
  simp only [Instr.sliceBound, asIntOf, hn0]
  simp [this]
 cases lo with
 | none =>
  simp only [bndE] at hlo
  subst hlo
  cases hi with
  | none =>
   simp only [bndE] at hhi
   subst hhi
   simp [execOp, hρ x _ hx, Instr.sliceAt, Instr.slice, run_underlying hT, Instr.sliceBounds, size_str, extract_str]
  | some xh =>
   obtain ⟨kh, hxh⟩ := hhi
   simp [execOp, hρ x _ hx, hρ xh _ hxh, Instr.sliceAt, Instr.slice, run_underlying hT, Instr.sliceBounds, size_str, extract_str, hhb]
 | some xl =>
  obtain ⟨kl, hxl⟩ := hlo
  cases hi with
  | none =>
   simp only [bndE] at hhi
   subst hhi
   have hlb' : ∀ k : IntKind, (Instr.sliceBound (.int k lv) a.length .sliceB).run P w' = .ok lv.toNat w' := fun k => by simpa using hlb k
   simp [execOp, hρ x _ hx, hρ xl _ hxl, Instr.sliceAt, Instr.slice, run_underlying hT, Instr.sliceBounds, size_str, extract_str, hlb']
  | some xh =>
   obtain ⟨kh, hxh⟩ := hhi
   simp [execOp, hρ x _ hx, hρ xl _ hxl, hρ xh _ hxh, Instr.sliceAt, Instr.slice, run_underlying hT, Instr.sliceBounds, size_str, extract_str, hhb, hlb]
theorem qt_slen {d : Option Nat} {s : List UInt8} (hT : P.underlying T = some .string) (hx : ev E x = some (strV s)) : Qt P ⟨d, .call ⟨.builtin .len, #[x], #[T]⟩, ty, ps, af, g⟩ E w (i64 s.length) := by
 have := qt_lenS (P := P) (w := w) (E := E) (d := d) (ty := ty) (ps := ps) (af := af) (g := g) hT hx
 rwa [size_str] at this
theorem RepL.ints {k : IntKind} : ∀ {xs : List Int} {cs : List Value} {F : List Nat}, RepL (Rep w (.int k)) cs xs F → cs = xs.map (Value.int k)
 | [], _, _, h => h.1
 | x :: xs, cs, F, ⟨c1, c2, F1, F2, h1, h2, h3, h4⟩ => by rw [h1, h3.1, h4.ints]; rfl
theorem XL_bytesH {Γ : List Res} {d : Nat} {S e : TypeId} {v : Value} {xs : List Int} (H : Ctx w Γ) (hh : Has Γ (.int .u8) v xs) (hS : P.underlying S = some (.slice e)) (he : P.underlying e = some (.int .u8)) (hT : P.underlying T = some .string)
  (hw : wantedE ops E ⟨some d, .convert S T x, ty, ps, af, g⟩ = some true) (hx : ev E x = some v) (hn : Nat.blt d n = true)
  (h : XL P ops n md l ((d, strV (bytesOf xs)) :: E) w) : XL P ops n md (⟨some d, .convert S T x, ty, ps, af, g⟩ :: l) E w := by
 obtain ⟨L, h1, h2, h3⟩ := H
 obtain ⟨B, S', ⟨p, cap, rfl, hcap, hr⟩, _, _⟩ := hh w L h1 h2 h3
 refine XL_q hw ?_ rfl hn h
 intro w' hb ρ hρ
 have key : (Conv.bytesToString (.slice p xs.length cap)).run P w' = .ok (strV (bytesOf xs)) w' := by
  rcases hr with ⟨rfl, _, _⟩ | ⟨b, off, bs, hne, rfl, _, hrep, hcell⟩
  ·cases p with
   | none => simp [Conv.bytesToString, bytesOf]; rfl
   | some a =>
    exact (run_bytesToString w' a 0 cap [] (run_loadCells_list (P := P) w' a [] (fun j u hj => by simp at hj))).trans rfl
  ·have hbs := hrep.ints
   have hl := run_loadCells_list (P := P) w' ⟨b, off, none⟩ (xs.map (Value.int .u8)) (fun j u hj => by
    have hc := hcell j u (hbs ▸ hj)
    rw [Addr.add_none, hb.cell (p := ⟨b, off + j, none⟩) (cell_lt hc)]; exact hc)
   rw [List.length_map] at hl
   rw [run_bytesToString w' ⟨b, off, none⟩ xs.length cap xs hl, foldl_push_bytes]
   simp [bytesOf, ByteArray.empty, ByteArray.emptyWithCapacity]
   rfl
 simp [execOp, hρ x _ hx, run_convert_bytes_string _ S T e _ _ _ hS he hT, key]
section arr
variable {M : List Nat} {w0 w' : World} {Γ Γ' G : List Res} {t : Ty} {v : Value} {xs ys : List t.den} {e : TypeId} {d : Nat}
theorem Holds.bx_sl {b : Nat} {Tb : TypeId} {cs : List Value} {N : Nat} (H : Holds M w0 w (.bx b Tb cs :: Γ) G) (hr : ∀ w, RepL (Rep w t) cs xs []) (hN : xs.length = N) (hmax : Nat.ble N 1000000 = true) :
  Holds M w0 w (.sl Tb t (.slice (some ⟨b, 0, none⟩) N N) xs :: Γ) G := by
 subst hN
 have hmax : xs.length ≤ 1000000 := by simpa using hmax
 refine H.upd fun S L h1 hs h3 h4 => ⟨[], Chg.refl _ _, ⟨cs, ⟨(hr w).length (fun c x F h => Rep.length h), .inr ⟨b, xs.length, cs.toArray, rfl, Nat.zero_le _, hs.2, Nat.le_refl _, by simp [maxLen]; omega, ?_, ?_⟩⟩, hr w⟩, ?_, (fun k hk => by cases hk), (fun k _ hk => by cases hk)⟩
 ·have := (hr w).length (fun c x F h => Rep.length h)
  simpa using this
 ·have := (hr w).length (fun c x F h => Rep.length h)
  rw [← this]; simp
 ·intro k hk
  left
  simpa [Res.own, Value.ownBlock] using hk
theorem XL_indexA {b0 N : Nat} {k : Int} {kk : IntKind} {u : t.den} (H : Ctx w Γ) (hh : Has Γ t v xs) (hv0 : v = .slice (some ⟨b0, 0, none⟩) N N) (hg : geti xs k = some u) (hT : P.underlying T = some (.array N e)) (hi : (P.info? e).map (·.size) = some t.size)
  (hw : wantedE ops E ⟨some d, .indexAddr T x y, ty, ps, af, g⟩ = some true) (hx : ev E x = some (.pointer (some ⟨b0, 0, none⟩))) (hy : ev E y = some (.int kk k)) (hn : Nat.blt d n = true)
  (h : ∀ b off cap, v = .slice (some ⟨b, off, none⟩) xs.length cap → XL P ops n md l ((d, .pointer (some ⟨b, off + k.toNat * t.size, none⟩)) :: E) w) : XL P ops n md (⟨some d, .indexAddr T x y, ty, ps, af, g⟩ :: l) E w := by
 obtain ⟨b, off, cap, hv⟩ := H.isAt hh hg
 have h0 := (geti_lt hg).1
 have hlt := (geti_lt hg).2
 have hvv := hv
 rw [hv0] at hvv
 injection hvv with e1 e2 e3
 injection e1 with e1
 injection e1 with e4 e5 e6
 obtain ⟨i, hi, hs⟩ := Option.map_eq_some_iff.1 hi
 refine XL_q (v := .pointer (some ⟨b, off + k.toNat * t.size, none⟩)) hw ?_ rfl hn (h b off cap hv)
 intro w' _ ρ hρ
 have hk : k < (N : Int) := by omega
 subst e4
 subst e5
 simp [execOp, hρ x _ hx, hρ y _ hy, Instr.indexAt, Instr.sureAddr, asIntOf, run_underlying hT, h0, hk, sizeOf, typeInfo, hi, hs, Addr.add_none]
theorem XL_sliceA {b0 N : Nat} {lo hi : Option Operand} {lv hv : Int} (H : Ctx w Γ) (hh : Has Γ t v xs) (hv0 : v = .slice (some ⟨b0, 0, none⟩) N N) (hs : subO xs lv hv = some ys) (hT : P.underlying T = some (.array N e)) (hsz : (P.info? e).map (·.size) = some t.size)
  (hlo : bndE E lo 0 lv) (hhi : bndE E hi xs.length hv)
  (hw : wantedE ops E ⟨some d, .slice T x lo hi none, ty, ps, af, g⟩ = some true) (hx : ev E x = some (.pointer (some ⟨b0, 0, none⟩))) (hn : Nat.blt d n = true)
  (h : XL P ops n md l ((d, subV t.size v lv.toNat hv.toNat) :: E) w) : XL P ops n md (⟨some d, .slice T x lo hi none, ty, ps, af, g⟩ :: l) E w := by
 obtain ⟨p, cap, hv1, hcap⟩ := H.isLen hh
 rw [hv0] at hv1
 injection hv1 with e1 e2 e3
 obtain ⟨h0, h1, h2, _⟩ := subO_some hs
 obtain ⟨ti, hi2, hsz⟩ := Option.map_eq_some_iff.1 hsz
 subst hv0
 refine XL_q hw ?_ rfl hn h
 intro w' _ ρ hρ
 have hhb : ∀ k : IntKind, (Instr.sliceBound (.int k hv) N .sliceAlen).run P w' = .ok hv.toNat w' := fun k => by
  have : 0 ≤ hv ∧ hv ≤ (N : Int) := by omega
  simp [Instr.sliceBound, asIntOf, this]
 have hlb : ∀ k : IntKind, (Instr.sliceBound (.int k lv) hv.toNat .sliceB).run P w' = .ok lv.toNat w' := fun k => by
  have hn0 : ((hv.toNat : Nat) : Int) = hv := Int.toNat_of_nonneg (by omega)
  have : 0 ≤ lv ∧ lv ≤ hv := by omega
  simp only [Instr.sliceBound, asIntOf, hn0]
  simp [this]
 cases lo with
 | none =>
  simp only [bndE] at hlo
  subst hlo
  cases hi with
  | none =>
   simp only [bndE] at hhi
   subst hhi
   by_cases hc : N = 0 <;> simp [execOp, hρ x _ hx, Instr.sliceAt, Instr.sureAddr, run_underlying hT, Instr.sliceBounds, sizeOf, typeInfo, hi2, hsz, subV, hc, e2.symm, Addr.add_none]
  | some xh =>
   obtain ⟨kh, hxh⟩ := hhi
   by_cases hc : N = 0 <;> simp [execOp, hρ x _ hx, hρ xh _ hxh, Instr.sliceAt, Instr.sureAddr, run_underlying hT, Instr.sliceBounds, sizeOf, typeInfo, hi2, hsz, subV, hc, hhb, Addr.add_none]
   ·subst hc; have := hhb kh; rw [this]; rfl
 | some xl =>
  obtain ⟨kl, hxl⟩ := hlo
  cases hi with
  | none =>
   simp only [bndE] at hhi
   subst hhi
   have hlb' : ∀ k : IntKind, (Instr.sliceBound (.int k lv) N .sliceB).run P w' = .ok lv.toNat w' := fun k => by have := hlb k; rw [← e2] at this; simpa using this
   simp [execOp, hρ x _ hx, hρ xl _ hxl, Instr.sliceAt, Instr.sureAddr, run_underlying hT, Instr.sliceBounds, sizeOf, typeInfo, hi2, hsz, subV, hlb', e2.symm, Addr.add_none]
   by_cases hc : N = lv.toNat
   ·rw [if_pos hc, if_pos hc]
   ·rw [if_neg hc, if_neg hc]
  | some xh =>
   obtain ⟨kh, hxh⟩ := hhi
   simp [execOp, hρ x _ hx, hρ xl _ hxl, hρ xh _ hxh, Instr.sliceAt, Instr.sureAddr, run_underlying hT, Instr.sliceBounds, sizeOf, typeInfo, hi2, hsz, subV, hhb, hlb, Addr.add_none]
   by_cases hc : N = lv.toNat
   ·rw [if_pos hc, if_pos hc]
   ·rw [if_neg hc, if_neg hc]
theorem RepL.strs : ∀ {xs : List (List UInt8)} {cs : List Value} {F : List Nat}, RepL (Rep w .str) cs xs F → cs = xs.map strV
 | [], _, _, h => h.1
 | x :: xs, cs, F, ⟨c1, c2, F1, F2, h1, h2, h3, h4⟩ => by rw [h1, h3.1, h4.strs]; rfl
theorem XL_loadArrS {b0 N : Nat} {ds : TypeDesc} {xs : List (List UInt8)} (H : Ctx w Γ) (hh : Has Γ .str (.slice (some ⟨b0, 0, none⟩) N N) xs) (hT : P.underlying T = some ds) (ho : oneB ds = false) (hs : (P.info? T).map (·.size) = some N)
  (hw : wantedE ops E ⟨some d, .load T x, ty, ps, af, g⟩ = some true) (hx : ev E x = some (.pointer (some ⟨b0, 0, none⟩))) (hn : Nat.blt d n = true)
  (h : XL P ops n md l ((d, .agg (xs.map strV).toArray) :: E) w) : XL P ops n md (⟨some d, .load T x, ty, ps, af, g⟩ :: l) E w := by
 obtain ⟨L, h1, h2, h3⟩ := H
 obtain ⟨B, S', ⟨p, cap, hv, hcap, hr⟩, _, _⟩ := hh w L h1 h2 h3
 injection hv with e1 e2 e3
 obtain ⟨ti, hi, hs⟩ := Option.map_eq_some_iff.1 hs
 refine XL_q (v := .agg (xs.map strV).toArray) hw ?_ rfl hn h
 intro w' hb ρ hρ
 have hload : (loadCells ⟨b0, 0, none⟩ N).run P w' = .ok (xs.map strV).toArray w' := by
  have hl := run_loadCells_list (P := P) w' ⟨b0, 0, none⟩ (xs.map strV) (fun j u hj => by
   rcases hr with ⟨rfl, _, _⟩ | ⟨b, off, bs, hne, hp, _, hrep, hcell⟩
   ·simp at hj
   ·rw [hp] at e1
    injection e1 with e1
    injection e1 with e4 e5 e6
    have hc := hcell j u (hrep.strs ▸ hj)
    rw [← e4, ← e5] at hc
    rw [Addr.add_none, hb.cell (p := ⟨b0, 0 + j, none⟩) (cell_lt hc)]; exact hc)
  rw [List.length_map, ← e2] at hl
  exact hl
 rw [← hs] at hload
 simp [execOp, hρ x _ hx, Instr.loadAt, Instr.sureAddr, loadVar, run_isAggT hT ho, sizeOf, typeInfo, hi, hload]
theorem qt_idxS {d : Option Nat} {N : Nat} {xs : List (List UInt8)} {kk : IntKind} {k : Int} {u : List UInt8} (hT : P.underlying T = some (.array N e)) (he : P.underlying e = some .string) (hi : (P.info? e).map (·.size) = some 1) (hl : xs.length = N) (hx : ev E x = some (.agg (xs.map strV).toArray)) (hy : ev E y = some (.int kk k)) (hg : geti xs k = some u) :
  Qt P ⟨d, .index T x y, ty, ps, af, g⟩ E w (strV u) := fun w' _ ρ hρ => by
 have h0 := (geti_lt hg).1
 have hlt := (geti_lt hg).2
 have hk : k < (N : Int) := by omega
 obtain ⟨ti, hi, hs⟩ := Option.map_eq_some_iff.1 hi
 have hget : xs[k.toNat]? = some u := by unfold geti at hg; rwa [if_pos h0] at hg
 have hgu : xs[k.toNat] = u := by rw [List.getElem?_eq_getElem hlt] at hget; exact Option.some.inj hget
 simp [execOp, hρ x _ hx, hρ y _ hy, Instr.index, asIntOf, run_underlying hT, h0, hk, part, run_isAgg he rfl, sizeOf, typeInfo, hi, hs, hlt, hgu]
end arr
end walk
end Go.Proofs.YtkhnponakhabdaaGreatDoor
