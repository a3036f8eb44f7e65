/- The library's functions over contexts, off the kit's laid contracts. Own work. -/
import Derived.Test.YthofjabphcheeaaDoorGlob
import Derived.Test.YthofjabphcheeaaDoorShelf
import Derived.Lib.SplitLaws
set_option linter.unusedVariables false
namespace Go.Proofs.YthofjabphcheeaaDoor
open Go Go.RowKit
theorem w_strconv_Itoa (w : World) (G : List Res) (hGp : GlobP G) (p0 : Int) (r : List UInt8) (h : strconv_ItoaS p0 = some r) (H : Ctx w G) : Calls Tryd.prog 48 #[.int .i64 p0] w fun e w' => e = .returned (strV r) ∧ Holds (([] : List Res).flatMap Res.own) w w' [] G := by
  unfold strconv_ItoaS at h
  split at h
  · rename_i hr
    obtain rfl := Option.some.inj h
    obtain ⟨T, fz, hb⟩ := hGp.at H
    have htab : Lib.TabIs Tryd.prog w "internal/strconv.uint64pow10" .u64 Lib.pow10Tab := by
      unfold Lib.TabIs World.var?
      rw [show Tryd.prog.globalNamed "internal/strconv.uint64pow10" = some 3 by kernel_rfl]
      simp only [Option.bind_some, hb]
    refine (Tryd.strconv_Itoa p0 hr.1 hr.2 w htab).mono ?_
    rintro e w' ⟨rfl, k, os, rfl⟩
    exact ⟨rfl, (Holds.startN H).grow ⟨rfl, rfl, rfl, by simp [«Sort».grow, World.drewN], fun j hj => by
      simp only [«Sort».grow, World.drewN]
      exact Array.getElem?_append_left hj⟩⟩
  · cases h
theorem glob_m {w : World} {G : List Res} (h : GlobM G) (H : Ctx w G) : ∃ m : Int, w.cell? ⟨2, 0, none⟩ = some (.int .i64 m) := by
  obtain ⟨m, hm⟩ := h
  obtain ⟨T, fz, hb⟩ := hm.at H
  refine ⟨m, ?_⟩
  unfold World.cell?
  simp [hb]
theorem w_strings_Cut (w : World) (G : List Res) (hGm : GlobM G) (p0 p1 : List UInt8) (r : List UInt8 × List UInt8 × Bool) (h : strings_CutS p0 p1 = some r) (H : Ctx w G) : Calls Tryd.prog 61 #[strV p0, strV p1] w fun e w' => e = .returned (.tuple #[strV r.1, strV r.2.1, .bool r.2.2]) ∧ Holds (([] : List Res).flatMap Res.own) w w' [] G := by
  unfold strings_CutS at h
  split at h
  · rename_i hr
    obtain rfl := Option.some.inj h
    obtain ⟨m, hm⟩ := glob_m hGm H
    refine (Tryd.strings_Cut ⟨p0.toArray⟩ ⟨p1.toArray⟩ m w (by rw [size_str]; exact hr) hm).mono ?_
    rintro e w' ⟨rfl, n, rfl⟩
    exact ⟨rfl, (Holds.startN H).grow ⟨rfl, rfl, rfl, Nat.le_refl _, fun _ _ => rfl⟩⟩
  · cases h
theorem strs_repL {w : World} : ∀ (xs : List (List UInt8)), RepL (Rep w .str) (xs.map strV) xs []
  | [] => ⟨rfl, rfl⟩
  | x :: xs => ⟨[strV x], _, [], [], rfl, rfl, ⟨rfl, rfl⟩, strs_repL xs⟩
theorem strVs_split (l : List ByteArray) : (l.map Value.string) = (l.map fun b => b.data.toList).map strV := by
  rw [List.map_map]
  rfl
theorem w_strings_Split (w : World) (G : List Res) (hGm : GlobM G) (p0 p1 : List UInt8) (r : List (List UInt8)) (h : strings_SplitS p0 p1 = some r) (H : Ctx w G) : Calls Tryd.prog 52 #[strV p0, strV p1] w fun e w' => ∃ (v1 : Value), e = .returned (v1) ∧ Holds (([] : List Res).flatMap Res.own) w w' [.sl 9 .str v1 r] G := by
  unfold strings_SplitS at h
  split at h
  · rename_i hr
    obtain rfl := Option.some.inj h
    obtain ⟨m, hm⟩ := glob_m hGm H
    have h1 : 1 ≤ (⟨p1.toArray⟩ : ByteArray).size := by rw [size_str]; exact hr.2
    refine (Tryd.strings_Split ⟨p0.toArray⟩ ⟨p1.toArray⟩ m w (by rw [size_str]; exact hr.1) hm h1).mono ?_
    have hlen := Lib.splitB_all ⟨p1.toArray⟩ h1 0 _ (⟨p0.toArray⟩ : ByteArray) rfl
    have hle := Lib.countB_le ⟨p1.toArray⟩ h1 _ (⟨p0.toArray⟩ : ByteArray) (Nat.le_refl _)
    rw [size_str] at hle
    generalize Lib.countB ⟨p0.toArray⟩ ⟨p1.toArray⟩ = c at hlen hle ⊢
    generalize Lib.splitB ⟨p1.toArray⟩ 0 c ⟨p0.toArray⟩ = l at hlen ⊢
    rintro e w' ⟨rfl, rfl⟩
    refine ⟨_, rfl, (Holds.startN H).add fun L h1 h2 h3 => ⟨[], (Below.refl w.heap.size w).alloc (Nat.le_refl _) _, ⟨(l.map fun b => b.data.toList).map strV, ⟨by simp [Ty.size], .inr ⟨w.heap.size, c + 1, ((l.map fun b => b.data.toList).map strV).toArray, ?_, Nat.zero_le _, ?_, ?_, ?_, ?_, ?_⟩⟩, strs_repL _⟩, ?_, (fun k hk => by cases hk), (fun k _ hk => by cases hk)⟩⟩
    · rw [List.length_map, hlen]
    · rw [← strVs_split]; exact heap_alloc_new w _
    · rw [List.length_map, hlen]; exact Nat.le_refl _
    · have := hr.1; simp only [maxLen]; omega
    · simp [Ty.size, hlen]
    · rw [List.take_of_length_le (by simp [Ty.size])]
    · intro k hk
      simp [Res.own, Value.ownBlock] at hk
      omega
  · cases h
end Go.Proofs.YthofjabphcheeaaDoor
