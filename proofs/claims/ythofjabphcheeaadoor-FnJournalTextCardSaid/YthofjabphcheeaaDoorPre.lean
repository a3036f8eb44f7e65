/- What the shallow functions rest on. Own work. -/
import Derived.Test.YthofjabphcheeaaDoorGlob
namespace Go.Proofs.YthofjabphcheeaaDoor
abbrev LI := List (Int × (List (Int × Int)) × Int)
abbrev LT := List (Int × (List (Int × Int)) × (List Int))
abbrev LP := List (Int × Int)
end Go.Proofs.YthofjabphcheeaaDoor
