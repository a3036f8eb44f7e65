/- laws.alive at its one concrete item. Own work. -/
import Derived.Test.YtkhnponakhabdaaGreatDoorShelf
import Derived.Test.YtkhnponakhabdaaGreatDoorRmore
import Derived.Test.YtkhnponakhabdaaGreatDoorShS7J
import Derived.WalkKit
import Derived.BigCall
namespace Go.Proofs.YtkhnponakhabdaaGreatDoor
open Go Go.RowKit
set_option maxHeartbeats 4000000
set_option maxRecDepth 1000000
theorem parts_walk (w : World) (b : Nat) (h0 : w.heap[b]? = some (.cells #[.int .i64 0, .int .i64 2] 79 (0, 0))) :
  Calls Tryz.prog 119 #[.slice (some ⟨b, 0, none⟩) 1 1, .int .i64 5] w fun e w' => e = .returned (.bool true) ∧ Below w.heap.size w w' := by
 have hlt : b < w.heap.size := (Array.getElem?_eq_some_iff.1 h0).1
 go_enter Tryz.func119, Tryz.ntmps119
 go_wp2
 go_loopw [5, 18] (fun v i wr => ((i = .int .i64 0 ∧ v = .int .i64 (-1)) ∨ i = .int .i64 1) ∧ Below w.heap.size w wr) (fun _ i _ => 1 - (intOf i).toNat)
 case atStart => exact ⟨.inl ⟨rfl, rfl⟩, Below.refl _ w⟩
 case round =>
  obtain ⟨hv, hbw⟩ := hrel
  have h0' : wr.heap[b]? = some (.cells #[.int .i64 0, .int .i64 2] 79 (0, 0)) := by rw [hbw.block b hlt]; exact h0
  have hc0 : wr.cell? ⟨b, 0, none⟩ = some (.int .i64 0) := by rw [Lib.cell_of_heap h0']; rfl
  have hc1 : wr.cell? ⟨b, 1, none⟩ = some (.int .i64 2) := by rw [Lib.cell_of_heap h0']; rfl
  rcases hv with ⟨rfl, rfl⟩ | rfl
  ·go_wp2
   go_roundw
   case rel => exact ⟨.inr rfl, hbw.alloc hbw.size _⟩
   case measure => decide
  ·go_wp2
   go_ret
   exact ⟨rfl, hbw⟩
theorem valid_walk (w : World) (b : Nat) (h0 : w.heap[b]? = some (.cells #[.int .i64 0, .int .i64 2] 79 (0, 0))) :
  Calls Tryz.prog 88 #[.agg #[.int .i64 4, .slice (some ⟨b, 0, none⟩) 1 1, .int .i64 3], .int .i64 5] w fun e w' => e = .returned (.bool true) ∧ Below w.heap.size w w' := by
 have hlt : b < w.heap.size := (Array.getElem?_eq_some_iff.1 h0).1
 have b0 := (Below.refl w.heap.size w).alloc (Nat.le_refl _) (.cells #[.int .i64 4, .slice (some ⟨b, 0, none⟩) 1 1, .int .i64 3] 70)
 have h0' : (w.alloc (.cells #[.int .i64 4, .slice (some ⟨b, 0, none⟩) 1 1, .int .i64 3] 70)).heap[b]? = some (.cells #[.int .i64 0, .int .i64 2] 79 (0, 0)) := by rw [b0.block b hlt]; exact h0
 go_enter Tryz.func88, Tryz.ntmps88
 go_wp2_with (go_at_call 119; refine (parts_walk _ b h0').mono ?_)
 rintro e W1 ⟨rfl, b1⟩
 go_wp2
 go_ret
 exact ⟨rfl, b0.trans (b1.mono b0.size)⟩
theorem valid_not (w : World) :
  Calls Tryz.prog 88 #[.agg #[.int .i64 (-1), .slice none 0 0, .int .i64 0], .int .i64 5] w fun e w' => e = .returned (.bool false) ∧ Below w.heap.size w w' := by
 go_enter Tryz.func88, Tryz.ntmps88
 go_wp2
 go_ret
 exact ⟨rfl, (Below.refl w.heap.size w).alloc (Nat.le_refl _) _⟩
theorem text_not (w : World) :
  Calls Tryz.prog 43 #[.agg #[.int .i64 (-1), .slice none 0 0, .int .i64 0]] w fun e w' => e = .returned (.string ⟨#[]⟩) ∧ Below w.heap.size w w' := by
 have b0 := (Below.refl w.heap.size w).alloc (Nat.le_refl _) (.cells #[.int .i64 (-1), .slice none 0 0, .int .i64 0] 70)
 go_enter Tryz.func43, Tryz.ntmps43
 go_wp2_with (go_at_call 88; refine (valid_not _).mono ?_)
 rintro e W1 ⟨rfl, b1⟩
 go_wp2
 go_ret
 exact ⟨rfl, b0.trans (b1.mono b0.size)⟩
theorem itoa_at {i : Nat} {z : Int} {l : List UInt8} (w : World) (hi : i < 10) (hz : (i : Int) = z) (hl : [UInt8.ofNat (48 + i)] = l) :
  Calls Tryz.prog 67 #[.int .i64 z] w fun e w' => e = .returned (.string ⟨l.toArray⟩) ∧ w' = w := by
 subst hz hl
 rw [← Lib.decDigits_one hi]
 exact Tryz.strconv_Itoa_small i (by omega) w
def Bu (B : Nat) (acc : List UInt8) (w : World) : Prop := Lib.IsBuilderF 110 5 B B (Lib.byteCells acc) w ∧ B ≤ w.heap.size ∧ acc.length ≤ 1000
theorem str_at {B : Nat} {acc l : List UInt8} {w : World} (h : Bu B acc w) (hl : (acc ++ l).length ≤ 1000) :
  Calls Tryz.prog 73 #[.pointer (some ⟨B, 0, none⟩), .string ⟨l.toArray⟩] w fun e w' => e = .returned (.tuple #[.int .i64 (ByteArray.size ⟨l.toArray⟩), .nilIface]) ∧ Bu B (acc ++ l) w' ∧ Below B w w' ∧ Lib.OthersKept 5 (some B) w w' := by
 have hl' : acc.length + l.length ≤ 1000 := by simpa using hl
 refine (Tryz.Builder_WriteString_k B B _ ⟨l.toArray⟩ w h.1 (by rw [Lib.byteCells_length]; have : (ByteArray.mk l.toArray).size = l.length := rfl; omega) h.2.1).mono ?_
 rintro e w' ⟨he, h1, b1, k1⟩
 refine ⟨he, ⟨?_, Nat.le_trans h.2.1 b1.size, hl⟩, b1, k1⟩
 rw [Lib.strCells_eq] at h1
 rw [Lib.byteCells_append]
 exact Or.inr h1
theorem byte_at {B : Nat} {acc : List UInt8} {w : World} {c : UInt8} {z : Int} (hz : (c.toNat : Int) = z) (h : Bu B acc w) (hl : (acc ++ [c]).length ≤ 1000) :
  Calls Tryz.prog 74 #[.pointer (some ⟨B, 0, none⟩), .int .u8 z] w fun e w' => e = .returned .nilIface ∧ Bu B (acc ++ [c]) w' ∧ Below B w w' ∧ Lib.OthersKept 5 (some B) w w' := by
 subst hz
 refine (Tryz.Builder_WriteByte_k B B _ c.toNat w h.1 (by rw [Lib.byteCells_length]; have := h.2.2; omega) h.2.1).mono ?_
 rintro e w' ⟨he, h1, b1, k1⟩
 refine ⟨he, ⟨?_, Nat.le_trans h.2.1 b1.size, hl⟩, b1, k1⟩
 rw [Lib.byteCells_append]
 exact Or.inr h1
theorem Bu.alloc {B : Nat} {acc : List UInt8} {w : World} (h : Bu B acc w) (o : Obj) : Bu B acc (w.alloc o) := ⟨h.1.alloc o, by have := h.2.1; simp; omega, h.2.2⟩
theorem text_walk (w : World) (b : Nat) (h0 : w.heap[b]? = some (.cells #[.int .i64 0, .int .i64 2] 79 (0, 0))) :
  Calls Tryz.prog 43 #[.agg #[.int .i64 4, .slice (some ⟨b, 0, none⟩) 1 1, .int .i64 3]] w fun e w' => e = .returned (.string ⟨#[52, 61, 48, 42, 50, 33, 51]⟩) ∧ Below w.heap.size w w' := by
 have hlt : b < w.heap.size := (Array.getElem?_eq_some_iff.1 h0).1
 have b0 := (Below.refl w.heap.size w).alloc (Nat.le_refl _) (.cells #[.int .i64 4, .slice (some ⟨b, 0, none⟩) 1 1, .int .i64 3] 70)
 have h0' : (w.alloc (.cells #[.int .i64 4, .slice (some ⟨b, 0, none⟩) 1 1, .int .i64 3] 70)).heap[b]? = some (.cells #[.int .i64 0, .int .i64 2] 79 (0, 0)) := by rw [b0.block b hlt]; exact h0
 have hx0 : (w.alloc (.cells #[.int .i64 4, .slice (some ⟨b, 0, none⟩) 1 1, .int .i64 3] 70)).heap[w.heap.size]? = some (.cells #[.int .i64 4, .slice (some ⟨b, 0, none⟩) 1 1, .int .i64 3] 70) := heap_alloc_new w _
 go_enter Tryz.func43, Tryz.ntmps43
 go_wp2_with (go_at_call 88; refine (valid_walk _ b h0').mono ?_)
 rintro e W1 ⟨rfl, b1⟩
 have h1 : W1.heap[b]? = some (.cells #[.int .i64 0, .int .i64 2] 79 (0, 0)) := by rw [b1.block b (by simp; omega)]; exact h0'
 have hx1 : W1.heap[w.heap.size]? = some (.cells #[.int .i64 4, .slice (some ⟨b, 0, none⟩) 1 1, .int .i64 3] 70) := by rw [b1.block w.heap.size (by simp)]; exact hx0
 have hcy : W1.cell? ⟨w.heap.size, 0, none⟩ = some (.int .i64 4) := by rw [Lib.cell_of_heap hx1]; rfl
 have hI : Bu W1.heap.size [] (W1.alloc (.cells #[.pointer none, .slice none 0 0] 110)) := ⟨Lib.IsBuilderF.of (Lib.fresh_isBuilder 110 5 W1), by simp, by simp⟩
 have c1 : Below W1.heap.size W1 (W1.alloc (.cells #[.pointer none, .slice none 0 0] 110)) := (Below.refl _ W1).alloc (Nat.le_refl _) _
 have hxb : w.heap.size < W1.heap.size := by have := b1.size; simp at this; omega
 have hcz : (W1.alloc (.cells #[.pointer none, .slice none 0 0] 110)).cell? ⟨w.heap.size, 0, none⟩ = some (.int .i64 4) := by rw [Lib.cell_of_heap ((c1.block w.heap.size hxb).trans hx1)]; rfl
 go_wp2_with (go_at_call 67; refine (itoa_at (l := [52]) (i := 4) _ (by omega) rfl rfl).mono ?_)
 rintro e _ ⟨rfl, rfl⟩
 go_wp2_with (go_at_call 73; refine (str_at (l := [52]) hI (by simp)).mono ?_)
 rintro e W2 ⟨rfl, h2, b2, k2⟩
 go_wp2_with (go_at_call 74; refine (byte_at (c := 61) rfl h2 (by simp)).mono ?_)
 rintro e W3 ⟨rfl, h3, b3, k3⟩
 have c3 := (c1.trans b2).trans b3
 have hx3 : W3.heap[w.heap.size]? = some (.cells #[.int .i64 4, .slice (some ⟨b, 0, none⟩) 1 1, .int .i64 3] 70) := by rw [c3.block w.heap.size hxb]; exact hx1
 have hcp : W3.cell? ⟨w.heap.size, 1, none⟩ = some (.slice (some ⟨b, 0, none⟩) 1 1) := by rw [Lib.cell_of_heap hx3]; rfl
 go_wp2
 go_loopw [17] (fun i wr => ((i = .int .i64 0 ∧ Bu W1.heap.size [52, 61] wr) ∨ (i = .int .i64 1 ∧ Bu W1.heap.size [52, 61, 48, 42, 50] wr)) ∧ Below W1.heap.size W1 wr) (fun i _ => 1 - (intOf i).toNat)
 case atStart => exact ⟨.inl ⟨rfl, h3⟩, c3⟩
 case round =>
  obtain ⟨hi, hbw⟩ := hrel
  have hlt1 : b < W1.heap.size := by omega
  have hr0 : wr.heap[b]? = some (.cells #[.int .i64 0, .int .i64 2] 79 (0, 0)) := by rw [hbw.block b hlt1]; exact h1
  have hc0 : wr.cell? ⟨b, 0, none⟩ = some (.int .i64 0) := by rw [Lib.cell_of_heap hr0]; rfl
  have hc1 : wr.cell? ⟨b, 1, none⟩ = some (.int .i64 2) := by rw [Lib.cell_of_heap hr0]; rfl
  rcases hi with ⟨rfl, hB⟩ | ⟨rfl, hB⟩
  ·have hs := hB.2.1
   have hne : wr.heap.size ≠ W1.heap.size := by
    obtain ⟨hI2, _⟩ := hB
    rcases hI2 with h | h <;> (have := h.lt; omega)
   have hT : (wr.alloc (.cells #[.int .i64 0, .int .i64 2] 79)).heap[wr.heap.size]? = some (.cells #[.int .i64 0, .int .i64 2] 79) := heap_alloc_new wr _
   have hbT := hbw.alloc hs (.cells #[.int .i64 0, .int .i64 2] 79)
   go_wp2_with (go_at_call 67; refine (itoa_at (l := [48]) (i := 0) _ (by omega) rfl rfl).mono ?_)
   rintro e _ ⟨rfl, rfl⟩
   go_wp2_with (go_at_call 73; refine (str_at (l := [48]) (hB.alloc _) (by simp)).mono ?_)
   rintro e W4 ⟨rfl, h4, b4, k4⟩
   go_wp2_with (go_at_call 74; refine (byte_at (c := 42) rfl h4 (by simp)).mono ?_)
   rintro e W5 ⟨rfl, h5, b5, k5⟩
   have hT5 := (k4.trans k5) _ _ hT (by simpa using hne) (by simp)
   have hc5 : W5.cell? ⟨wr.heap.size, 1, none⟩ = some (.int .i64 2) := by rw [Lib.cell_of_heap hT5]; rfl
   go_wp2_with (go_at_call 67; refine (itoa_at (l := [50]) (i := 2) _ (by omega) rfl rfl).mono ?_)
   rintro e _ ⟨rfl, rfl⟩
   go_wp2_with (go_at_call 73; refine (str_at (l := [50]) h5 (by simp)).mono ?_)
   rintro e W6 ⟨rfl, h6, b6, k6⟩
   go_wp2
   go_roundw
   case rel => exact ⟨.inr ⟨rfl, h6⟩, ((hbT.trans b4).trans b5).trans b6⟩
   case measure => decide
  ·go_wp2_with (go_at_call 74; refine (byte_at (c := 33) rfl hB (by simp)).mono ?_)
   rintro e W4 ⟨rfl, h4, b4, k4⟩
   have c4 := hbw.trans b4
   have hx4 : W4.heap[w.heap.size]? = some (.cells #[.int .i64 4, .slice (some ⟨b, 0, none⟩) 1 1, .int .i64 3] 70) := by rw [c4.block w.heap.size hxb]; exact hx1
   have hcm : W4.cell? ⟨w.heap.size, 2, none⟩ = some (.int .i64 3) := by rw [Lib.cell_of_heap hx4]; rfl
   go_wp2_with (go_at_call 67; refine (itoa_at (l := [51]) (i := 3) _ (by omega) rfl rfl).mono ?_)
   rintro e _ ⟨rfl, rfl⟩
   go_wp2_with (go_at_call 73; refine (str_at (l := [51]) h4 (by simp)).mono ?_)
   rintro e W5 ⟨rfl, h5, b5, k5⟩
   go_wp2_with (go_at_call 75; refine (Tryz.Builder_String_any_k W1.heap.size W1.heap.size _ _ h5.1 h5.2.1).mono ?_)
   rintro e W6 ⟨rfl, h6, b6, k6⟩
   go_wp2
   go_ret
   exact ⟨rfl, (b0.trans (b1.mono b0.size)).trans (((c4.trans b5).trans b6).mono (by omega))⟩
end Go.Proofs.YtkhnponakhabdaaGreatDoor
