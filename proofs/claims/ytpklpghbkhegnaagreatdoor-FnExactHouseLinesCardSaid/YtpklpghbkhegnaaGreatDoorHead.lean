/- The head of the translation, sign by sign; and what of a row's closed facts hangs on it. Own work. -/
import Derived.Test.YtpklpghbkhegnaaGreatDoorChecked
import Derived.ProofKit
set_option maxRecDepth 100000
namespace Go.Proofs.YtpklpghbkhegnaaGreatDoor
open Go
def headSigns : List Char := ([104, 97, 114, 110, 101, 115, 115, 32, 100, 54, 97, 49, 99, 51, 52, 51, 49, 101, 51, 99, 56, 52, 56, 98, 54, 102, 48, 50, 50, 57, 97, 53, 48, 54, 52, 52, 52, 51, 50, 52, 101, 97, 101, 55, 97, 49, 102, 51, 99, 100, 48, 97, 55, 48, 99, 100, 55, 51, 99, 98, 48, 101, 98, 49, 98, 50, 100, 101, 49, 57, 56, 97, 32, 99, 117, 116, 32, 97, 116, 32, 108, 111, 111, 112, 46, 101, 120, 97, 109, 112, 108, 101, 47, 114, 101, 115, 116, 97, 117, 114, 97, 110, 116, 107, 105, 116, 99, 104, 101, 110, 47, 108, 97, 119, 115, 46, 70, 110, 69, 120, 97, 99, 116, 72, 111, 117, 115, 101, 76, 105, 110, 101, 32, 108, 111, 111, 112, 46, 101, 120, 97, 109, 112, 108, 101, 47, 114, 101, 115, 116, 97, 117, 114, 97, 110, 116, 107, 105, 116, 99, 104, 101, 110, 47, 108, 97, 119, 115, 46, 70, 110, 69, 120, 97, 99, 116, 72, 111, 117, 115, 101, 76, 105, 110, 101, 115] : List Nat).map Char.ofNat
theorem head_eq : Tryz.prog.initOrder = String.ofList headSigns := by show Tryz.progTables.initOrder = _; unfold headSigns Tryz.progTables; dsimp only; simp only [List.map]
theorem head_signs : Tryz.prog.initOrder.toList = headSigns := by rw [head_eq, String.toList_ofList]
def headWords : List (List Char) := ([[99, 117, 116], [97, 116], [108, 111, 111, 112, 46, 101, 120, 97, 109, 112, 108, 101, 47, 114, 101, 115, 116, 97, 117, 114, 97, 110, 116, 107, 105, 116, 99, 104, 101, 110, 47, 108, 97, 119, 115, 46, 70, 110, 69, 120, 97, 99, 116, 72, 111, 117, 115, 101, 76, 105, 110, 101], [108, 111, 111, 112, 46, 101, 120, 97, 109, 112, 108, 101, 47, 114, 101, 115, 116, 97, 117, 114, 97, 110, 116, 107, 105, 116, 99, 104, 101, 110, 47, 108, 97, 119, 115, 46, 70, 110, 69, 120, 97, 99, 116, 72, 111, 117, 115, 101, 76, 105, 110, 101, 115]] : List (List Nat)).map (fun w => w.map Char.ofNat)
theorem words_eq : behindMainWord (wordsSigns headSigns) = headWords := by kernel_rfl
theorem band {a b : Bool} (ha : a = true) (hb : b = true) : (a && b) = true := by rw [ha, hb]; rfl
theorem lifts_gen (P : Program) (h : P.initOrder.toList = headSigns) : P.headLifts = [] := by unfold Program.headLifts; rw [h, words_eq]; kernel_rfl
theorem final_gen (P : Program) (h : P.initOrder.toList = headSigns) : P.liftsFinal = false := by unfold Program.liftsFinal; rw [lifts_gen P h, h, words_eq]; kernel_rfl
theorem make_gen (P : Program) (h : P.initOrder.toList = headSigns) : P.make = some .cut := by unfold Program.make; rw [h, words_eq]; kernel_rfl
theorem may_gen (P : Program) (h : P.initOrder.toList = headSigns) (hl : P.laysLater = false) (hr : P.bearsReflect = false) : P.mayEnter = P.doorFits [] := by unfold Program.mayEnter; rw [h, words_eq, hl, hr]; kernel_rfl
theorem lays_no : Tryz.prog.laysLater = false := by kernel_rfl
theorem refl_no : Tryz.prog.bearsReflect = false := by kernel_rfl
theorem door_yes : Tryz.prog.doorFits [] = true := by kernel_rfl
theorem lifts_final : (false == Tryz.prog.liftsFinal) = true := by rw [final_gen _ head_signs]; rfl
theorem make_eq : (Tryz.prog.make == some .cut) = true := by rw [make_gen _ head_signs]; rfl
theorem may_enter : Tryz.prog.mayEnter = true := by rw [may_gen _ head_signs lays_no refl_no]; exact door_yes
theorem main_gen (P : Program) (h : P.initOrder.toList = headSigns) : P.mainIs = some (true, ([100, 54, 97, 49, 99, 51, 52, 51, 49, 101, 51, 99, 56, 52, 56, 98, 54, 102, 48, 50, 50, 57, 97, 53, 48, 54, 52, 52, 52, 51, 50, 52, 101, 97, 101, 55, 97, 49, 102, 51, 99, 100, 48, 97, 55, 48, 99, 100, 55, 51, 99, 98, 48, 101, 98, 49, 98, 50, 100, 101, 49, 57, 56, 97] : List Nat).map Char.ofNat) := by unfold Program.mainIs; rw [h]; kernel_rfl
theorem main_eq : Tryz.prog.mainIs = some (true, "d6a1c3431e3c848b6f0229a506444324eae7a1f3cd0a70cd73cb0eb1b2de198a".toList) := by rw [main_gen _ head_signs]; kernel_rfl
end Go.Proofs.YtpklpghbkhegnaaGreatDoor
