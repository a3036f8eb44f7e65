/- The head of the translation, sign by sign; and what of a row's closed facts hangs on it. Own work. -/
import Derived.Test.YtkhnponakhabdaaGreatDoorChecked
import Derived.ProofKit
set_option maxRecDepth 100000
namespace Go.Proofs.YtkhnponakhabdaaGreatDoor
open Go
def headSigns : List Char := ([104, 97, 114, 110, 101, 115, 115, 32, 48, 50, 48, 97, 49, 100, 48, 99, 48, 55, 99, 50, 99, 57, 56, 54, 54, 50, 49, 57, 53, 100, 101, 55, 53, 51, 97, 100, 99, 98, 51, 99, 97, 56, 53, 56, 102, 48, 102, 101, 99, 49, 57, 57, 54, 97, 51, 50, 99, 51, 101, 52, 49, 101, 99, 98, 50, 56, 50, 50, 52, 52, 101, 100, 32, 99, 117, 116, 32, 97, 116, 32, 108, 111, 111, 112, 46, 101, 120, 97, 109, 112, 108, 101, 47, 114, 101, 115, 116, 97, 117, 114, 97, 110, 116, 107, 105, 116, 99, 104, 101, 110, 47, 108, 97, 119, 115, 46, 70, 110, 72, 111, 117, 115, 101, 76, 105, 110, 101, 115, 32, 108, 111, 111, 112, 46, 101, 120, 97, 109, 112, 108, 101, 47, 114, 101, 115, 116, 97, 117, 114, 97, 110, 116, 107, 105, 116, 99, 104, 101, 110, 47, 108, 97, 119, 115, 46, 70, 110, 72, 111, 117, 115, 101, 76, 105, 110, 101, 32, 108, 111, 111, 112, 46, 101, 120, 97, 109, 112, 108, 101, 47, 114, 101, 115, 116, 97, 117, 114, 97, 110, 116, 107, 105, 116, 99, 104, 101, 110, 47, 108, 97, 119, 115, 46, 70, 110, 82, 101, 97, 100, 74, 111, 117, 114, 110, 97, 108] : List Nat).map Char.ofNat
theorem head_eq : Tryz.prog.initOrder = String.ofList headSigns := by show Tryz.progTables.initOrder = _; unfold headSigns Tryz.progTables; dsimp only; simp only [List.map]
theorem head_signs : Tryz.prog.initOrder.toList = headSigns := by rw [head_eq, String.toList_ofList]
def headWords : List (List Char) := ([[99, 117, 116], [97, 116], [108, 111, 111, 112, 46, 101, 120, 97, 109, 112, 108, 101, 47, 114, 101, 115, 116, 97, 117, 114, 97, 110, 116, 107, 105, 116, 99, 104, 101, 110, 47, 108, 97, 119, 115, 46, 70, 110, 72, 111, 117, 115, 101, 76, 105, 110, 101, 115], [108, 111, 111, 112, 46, 101, 120, 97, 109, 112, 108, 101, 47, 114, 101, 115, 116, 97, 117, 114, 97, 110, 116, 107, 105, 116, 99, 104, 101, 110, 47, 108, 97, 119, 115, 46, 70, 110, 72, 111, 117, 115, 101, 76, 105, 110, 101], [108, 111, 111, 112, 46, 101, 120, 97, 109, 112, 108, 101, 47, 114, 101, 115, 116, 97, 117, 114, 97, 110, 116, 107, 105, 116, 99, 104, 101, 110, 47, 108, 97, 119, 115, 46, 70, 110, 82, 101, 97, 100, 74, 111, 117, 114, 110, 97, 108]] : List (List Nat)).map (fun w => w.map Char.ofNat)
theorem words_eq : behindMainWord (wordsSigns headSigns) = headWords := by kernel_rfl
theorem band {a b : Bool} (ha : a = true) (hb : b = true) : (a && b) = true := by rw [ha, hb]; rfl
theorem lifts_gen (P : Program) (h : P.initOrder.toList = headSigns) : P.headLifts = [] := by unfold Program.headLifts; rw [h, words_eq]; kernel_rfl
theorem final_gen (P : Program) (h : P.initOrder.toList = headSigns) : P.liftsFinal = false := by unfold Program.liftsFinal; rw [lifts_gen P h, h, words_eq]; kernel_rfl
theorem make_gen (P : Program) (h : P.initOrder.toList = headSigns) : P.make = some .cut := by unfold Program.make; rw [h, words_eq]; kernel_rfl
theorem may_gen (P : Program) (h : P.initOrder.toList = headSigns) (hl : P.laysLater = false) (hr : P.bearsReflect = false) : P.mayEnter = P.doorFits [] := by unfold Program.mayEnter; rw [h, words_eq, hl, hr]; kernel_rfl
theorem lays_no : Tryz.prog.laysLater = false := by kernel_rfl
theorem refl_no : Tryz.prog.bearsReflect = false := by kernel_rfl
theorem door_yes : Tryz.prog.doorFits [] = true := by kernel_rfl
theorem lifts_final : (false == Tryz.prog.liftsFinal) = true := by rw [final_gen _ head_signs]; rfl
theorem make_eq : (Tryz.prog.make == some .cut) = true := by rw [make_gen _ head_signs]; rfl
theorem may_enter : Tryz.prog.mayEnter = true := by rw [may_gen _ head_signs lays_no refl_no]; exact door_yes
theorem main_gen (P : Program) (h : P.initOrder.toList = headSigns) : P.mainIs = some (true, ([48, 50, 48, 97, 49, 100, 48, 99, 48, 55, 99, 50, 99, 57, 56, 54, 54, 50, 49, 57, 53, 100, 101, 55, 53, 51, 97, 100, 99, 98, 51, 99, 97, 56, 53, 56, 102, 48, 102, 101, 99, 49, 57, 57, 54, 97, 51, 50, 99, 51, 101, 52, 49, 101, 99, 98, 50, 56, 50, 50, 52, 52, 101, 100] : List Nat).map Char.ofNat) := by unfold Program.mainIs; rw [h]; kernel_rfl
theorem main_eq : Tryz.prog.mainIs = some (true, "020a1d0c07c2c98662195de753adcb3ca858f0fec1996a32c3e41ecb282244ed".toList) := by rw [main_gen _ head_signs]; kernel_rfl
end Go.Proofs.YtkhnponakhabdaaGreatDoor
