/- The library's functions over contexts, off the kit's laid contracts. Own work. -/
import Derived.Test.YtkhnponakhabdaaGreatDoorGlob
import Derived.Test.YtkhnponakhabdaaGreatDoorOrd
import Derived.Test.YtkhnponakhabdaaGreatDoorShelf
import Derived.Lib.SplitLaws
set_option linter.unusedVariables false
namespace Go.Proofs.YtkhnponakhabdaaGreatDoor
open Go Go.RowKit
theorem w_strconv_Itoa (w : World) (G : List Res) (hGp : GlobP G) (p0 : Int) (r : List UInt8) (h : strconv_ItoaS p0 = some r) (H : Ctx w G) : Calls Tryz.prog 67 #[.int .i64 p0] w fun e w' => e = .returned (strV r) ∧ Holds (([] : List Res).flatMap Res.own) w w' [] G := by
 unfold strconv_ItoaS at h
 split at h
 ·rename_i hr
  obtain rfl := Option.some.inj h
  obtain ⟨T, fz, hb⟩ := hGp.at H
  have htab : Lib.TabIs Tryz.prog w "internal/strconv.uint64pow10" .u64 Lib.pow10Tab := by
   unfold Lib.TabIs World.var?
   rw [show Tryz.prog.globalNamed "internal/strconv.uint64pow10" = some 3 by kernel_rfl]
   simp only [Option.bind_some, hb]
  refine (Tryz.strconv_Itoa p0 hr.1 hr.2 w htab).mono ?_
  rintro e w' ⟨rfl, k, os, rfl⟩
  exact ⟨rfl, (Holds.startN H).grow ⟨rfl, rfl, rfl, by simp [«Sort».grow, World.drewN], fun j hj => by
   simp only [«Sort».grow, World.drewN]
   exact Array.getElem?_append_left hj⟩⟩
 ·cases h
theorem glob_m {w : World} {G : List Res} (h : GlobM G) (H : Ctx w G) : ∃ m : Int, w.cell? ⟨2, 0, none⟩ = some (.int .i64 m) := by
 obtain ⟨m, hm⟩ := h
 obtain ⟨T, fz, hb⟩ := hm.at H
 refine ⟨m, ?_⟩
 unfold World.cell?
 simp [hb]
theorem w_strings_Cut (w : World) (G : List Res) (hGm : GlobM G) (p0 p1 : List UInt8) (r : List UInt8 × List UInt8 × Bool) (h : strings_CutS p0 p1 = some r) (H : Ctx w G) : Calls Tryz.prog 64 #[strV p0, strV p1] w fun e w' => e = .returned (.tuple #[strV r.1, strV r.2.1, .bool r.2.2]) ∧ Holds (([] : List Res).flatMap Res.own) w w' [] G := by
 unfold strings_CutS at h
 split at h
 ·rename_i hr
  obtain rfl := Option.some.inj h
  obtain ⟨m, hm⟩ := glob_m hGm H
  refine (Tryz.strings_Cut ⟨p0.toArray⟩ ⟨p1.toArray⟩ m w (by rw [size_str]; exact hr) hm).mono ?_
  rintro e w' ⟨rfl, n, rfl⟩
  exact ⟨rfl, (Holds.startN H).grow ⟨rfl, rfl, rfl, Nat.le_refl _, fun _ _ => rfl⟩⟩
 ·cases h
theorem strs_repL {w : World} : ∀ (xs : List (List UInt8)), RepL (Rep w .str) (xs.map strV) xs []
 | [] => ⟨rfl, rfl⟩
 | x :: xs => ⟨[strV x], _, [], [], rfl, rfl, ⟨rfl, rfl⟩, strs_repL xs⟩
theorem strVs_split (l : List ByteArray) : (l.map Value.string) = (l.map fun b => b.data.toList).map strV := by
 rw [List.map_map]
 rfl
theorem w_strings_Split (w : World) (G : List Res) (hGm : GlobM G) (p0 p1 : List UInt8) (r : List (List UInt8)) (h : strings_SplitS p0 p1 = some r) (H : Ctx w G) : Calls Tryz.prog 89 #[strV p0, strV p1] w fun e w' => ∃ (v1 : Value), e = .returned (v1) ∧ Holds (([] : List Res).flatMap Res.own) w w' [.sl 9 .str v1 r] G := by
 unfold strings_SplitS at h
 split at h
 ·rename_i hr
  obtain rfl := Option.some.inj h
  obtain ⟨m, hm⟩ := glob_m hGm H
  have h1 : 1 ≤ (⟨p1.toArray⟩ : ByteArray).size := by rw [size_str]; exact hr.2
  refine (Tryz.strings_Split ⟨p0.toArray⟩ ⟨p1.toArray⟩ m w (by rw [size_str]; exact hr.1) hm h1).mono ?_
  have hlen := Lib.splitB_all ⟨p1.toArray⟩ h1 0 _ (⟨p0.toArray⟩ : ByteArray) rfl
  have hle := Lib.countB_le ⟨p1.toArray⟩ h1 _ (⟨p0.toArray⟩ : ByteArray) (Nat.le_refl _)
  rw [size_str] at hle
  generalize Lib.countB ⟨p0.toArray⟩ ⟨p1.toArray⟩ = c at hlen hle ⊢
  generalize Lib.splitB ⟨p1.toArray⟩ 0 c ⟨p0.toArray⟩ = l at hlen ⊢
  rintro e w' ⟨rfl, rfl⟩
  refine ⟨_, rfl, (Holds.startN H).add fun L h1 h2 h3 => ⟨[], (Below.refl w.heap.size w).alloc (Nat.le_refl _) _, ⟨(l.map fun b => b.data.toList).map strV, ⟨by simp [Ty.size], .inr ⟨w.heap.size, c + 1, ((l.map fun b => b.data.toList).map strV).toArray, ?_, Nat.zero_le _, ?_, ?_, ?_, ?_, ?_⟩⟩, strs_repL _⟩, ?_, (fun k hk => by cases hk), (fun k _ hk => by cases hk)⟩⟩
  ·rw [List.length_map, hlen]
  ·rw [← strVs_split]; exact heap_alloc_new w _
  ·rw [List.length_map, hlen]; exact Nat.le_refl _
  ·have := hr.1; simp only [maxLen]; omega
  ·simp [Ty.size, hlen]
  ·rw [List.take_of_length_le (by simp [Ty.size])]
  ·intro k hk
   simp [Res.own, Value.ownBlock] at hk
   omega
 ·cases h
theorem w_strings_Join (w : World) (G : List Res) (vp0 : Value) (p0 : List (List UInt8)) (hp0 : Has G .str vp0 p0) (p1 r : List UInt8) (h : strings_JoinS p0 p1 = some r) (H : Ctx w G) : Calls Tryz.prog 123 #[vp0, strV p1] w fun e w' => e = .returned (strV r) ∧ Holds (([] : List Res).flatMap Res.own) w w' [] G := by
 unfold strings_JoinS at h
 split at h
 ·rename_i hr
  obtain rfl := Option.some.inj h
  obtain ⟨p, cap, hv, hcap⟩ := H.isLen hp0
  cases p0 with
  | nil =>
   rw [hv]
   refine (Tryz.strings_Join_none p cap ⟨p1.toArray⟩ w).mono ?_
   rintro e w' ⟨rfl, rfl⟩
   exact ⟨rfl, Holds.startN (Rs := []) H⟩
  | cons x xs =>
   obtain ⟨b, off, cap', hv2⟩ := H.isAt hp0 (k := 0) (u := x) rfl
   rw [hv2]
   rw [hv] at hv2
   simp only [Value.slice.injEq] at hv2
   obtain ⟨rfl, _, rfl⟩ := hv2
   have hc : ∀ (j : Nat) (y : List UInt8), (x :: xs)[j]? = some y → w.cell? ⟨b, off + j, none⟩ = some (strV y) := fun j y hj => by
    obtain ⟨hlt, he⟩ := List.getElem?_eq_some_iff.1 hj
    obtain ⟨F, hat⟩ := Ctx.at H hp0 (k := (j : Int)) (u := y) (by unfold geti; rw [if_pos (by omega)]; simpa using hj) hv
    have h1 := hat.cStr
    simpa [Ty.size] using h1
   have hb : b < w.heap.size := by
    have h0 := hc 0 x rfl
    exact cell_lt h0
   have hm : ((x :: xs).map fun y => (⟨y.toArray⟩ : ByteArray)).map (·.data.toList) = x :: xs := by
    rw [List.map_map]
    exact (List.map_congr_left fun y _ => rfl).trans (List.map_id _)
   have hJ := Tryz.strings_Join b off cap ((x :: xs).map fun y => (⟨y.toArray⟩ : ByteArray)) ⟨p1.toArray⟩ w (fun j z hz => by
    rw [List.getElem?_map] at hz
    obtain ⟨y, hy, rfl⟩ := Option.map_eq_some_iff.1 hz
    exact hc j y hy) hb (by simpa using hr.1) (by simpa using hcap) (by rw [hm]; exact hr.2)
   rw [hm, List.length_map] at hJ
   refine hJ.mono ?_
   rintro e w' ⟨rfl, hB⟩
   exact ⟨rfl, (Holds.startN (Rs := []) H).grow hB⟩
 ·cases h
end Go.Proofs.YtkhnponakhabdaaGreatDoor
