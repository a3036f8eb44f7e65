/- impl.JournalText in plain Lean. Own work. -/
import Derived.Test.YtkhnponakhabdaaGreatDoorShS7J
set_option linter.unusedVariables false
set_option maxRecDepth 10000
namespace Go.Proofs.YtkhnponakhabdaaGreatDoor
open Go Go.RowKit
noncomputable def impl_JournalTextS (p0 : List (Int × Int × Int × Int)) : Option (List UInt8) :=
 ((loop (σ := List UInt8 × Int) (ρ := (List UInt8) ⊕ ((List UInt8))) (fun (s : List UInt8 × Int) => match s with | (z1, s1) => (if (decide (s1 < (List.length p0 : Int))) then ((geti p0 s1).bind fun x3 => ((impl_DeedTextS x3.1 x3.2.1 x3.2.2.1 x3.2.2.2).bind fun x43 => (if (x43 == ([] : List UInt8)) then (some (.inr (.inr ([] : List UInt8)))) else (if (decide (z1.length + x43.length + 1 ≤ 140737488355328)) then (some (.inl (z1 ++ x43 ++ [10], IntKind.wrap .i64 (s1 + 1)))) else none)))) else (some (.inr (.inl z1))))) ([], 0)).bind fun o => match o with | .inl z => (some z) | .inr p49 => (some p49))
end Go.Proofs.YtkhnponakhabdaaGreatDoor
