/- Shallow functions, printed by a program off the translation. -/
import Derived.Test.YtcjkbcdlpfgbgaaDoorJText
set_option linter.unusedVariables false
set_option maxRecDepth 10000
namespace Go.Proofs.YtcjkbcdlpfgbgaaDoor
open Go Go.RowKit
noncomputable def laws_szHouseDeedSS (p0 : List (Int × Int × Int × Int)) (p1 : Int) : Option Int :=
  (if (decide ((IntKind.wrap .i64 (p1 - (List.length p0 : Int))) < 0)) then (some (-1)) else (some (IntKind.wrap .i64 (p1 - (List.length p0 : Int)))))
noncomputable def laws_toHouseDeedSS (p0 : List (Int × Int × Int × Int)) : Option (List (Int × Int × Int × Int)) :=
  ((mkO ((0, 0, 0, 0) : Int × Int × Int × Int) (List.length p0 : Int)).bind fun x1 => ((loop (σ := Int × (List (Int × Int × Int × Int))) (ρ := ((List (Int × Int × Int × Int)))) (fun (s : Int × (List (Int × Int × Int × Int))) => match s with | (s7, s8) => (if (decide (s7 < (List.length p0 : Int))) then ((geti p0 s7).bind fun x10 => ((laws_toHouseDeedS x10.1 x10.2.1 x10.2.2.1 x10.2.2.2).bind fun x42 => ((geti s8 s7).bind fun x47 => (some (.inl (IntKind.wrap .i64 (s7 + 1), (List.set s8 (Int.toNat s7) (x42.1, x42.2.1, x42.2.2.1, x42.2.2.2)))))))) else (some (.inr s8)))) (0, x1)).bind fun o => match o with | p56 => (some p56)))
noncomputable def spec_JournalTextS (p0 : List (Int × Int × Int × Int)) : Option (List UInt8) :=
  ((loop (σ := (List UInt8) × Int) (ρ := ((List UInt8)) ⊕ ((List UInt8))) (fun (s : (List UInt8) × Int) => match s with | (s1, s2) => (if (decide (s2 < (List.length p0 : Int))) then ((geti p0 s2).bind fun x4 => ((spec_DeedTextS x4.1 x4.2.1 x4.2.2.1 x4.2.2.2).bind fun x36 => (if (x36 == ([] : List UInt8)) then (some (.inr (.inr ([] : List UInt8)))) else ((geti p0 s2).bind fun x42 => ((spec_DeedTextS x42.1 x42.2.1 x42.2.2.1 x42.2.2.2).bind fun x74 => ((strAdd s1 x74).bind fun x76 => ((strAdd x76 ([10] : List UInt8)).bind fun x78 => (some (.inl (x78, IntKind.wrap .i64 (s2 + 1))))))))))) else (some (.inr (.inl s1))))) (([] : List UInt8), 0)).bind fun o => match o with | .inl p83 => (some p83) | .inr p84 => (some p84))
noncomputable def laws_FnExactJournalTextS (p0 : List (Int × Int × Int × Int)) : Option Bool :=
  ((laws_szHouseDeedSS p0 1048576).bind fun x1 => (if (decide (x1 < 0)) then (some true) else ((laws_toHouseDeedSS p0).bind fun x7 => ((spec_JournalTextS x7).bind fun x13 => ((laws_toHouseDeedSS p0).bind fun x18 => ((impl_JournalTextS x18).bind fun x24 => (if (x24 != x13) then (some false) else ((laws_toHouseDeedSS p0).bind fun x30 => ((laws_eqHouseDeedSS x18 x30).bind fun x36 => (if (!x36) then (some false) else (some true)))))))))))
end Go.Proofs.YtcjkbcdlpfgbgaaDoor
