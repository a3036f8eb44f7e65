/- laws.alive: walked at its one item. Own work. -/
import Derived.Test.YtkhnponakhabdaaGreatDoorItem
namespace Go.Proofs.YtkhnponakhabdaaGreatDoor
open Go Go.RowKit
set_option maxHeartbeats 4000000
set_option maxRecDepth 1000000
theorem alive_walk (w : World) :
  Calls Tryz.prog 13 #[] w fun e w' => e = .returned (.bool true) ∧ Below w.heap.size w w' := by
 have b0 := (Below.refl w.heap.size w).alloc (Nat.le_refl _) (.cells #[.int .i64 0, .int .i64 2] 79)
 have h0 : (w.alloc (.cells #[.int .i64 0, .int .i64 2] 79)).heap[w.heap.size]? = some (.cells #[.int .i64 0, .int .i64 2] 79) := heap_alloc_new w _
 go_enter Tryz.func13, Tryz.ntmps13
 go_wp2_with (go_at_call 43; refine (text_walk _ w.heap.size h0).mono ?_)
 rintro e W1 ⟨rfl, b1⟩
 go_wp2_with (go_at_call 43; refine (text_not _).mono ?_)
 rintro e W2 ⟨rfl, b2⟩
 go_wp2
 go_ret
 exact ⟨rfl, (b0.trans (b1.mono b0.size)).trans (b2.mono (Nat.le_trans b0.size b1.size))⟩
theorem w_laws_alive (w : World) (G : List Res) (r : Bool) (h : laws_aliveS = some r) (H : Ctx w (([] : List Res) ++ G)) : Calls Tryz.prog 13 #[] w fun e w' => e = .returned (.bool r) ∧ Holds (([] : List Res).flatMap Res.own) w w' [] G := by
 have hr : r = true := (Option.some.inj h).symm
 subst hr
 refine (alive_walk w).mono ?_
 rintro e w' ⟨rfl, hb⟩
 exact ⟨rfl, (Holds.startN H).grow hb⟩
end Go.Proofs.YtkhnponakhabdaaGreatDoor
