/- A region that draws its order in whose midst one call writes, everything ahead of it and behind it being quiet: walked once, the call in its place. Conditions: the program follows mixed orders; the order of the region passes two checks. -/
import Derived.Test.YtieifhfgedoiaaaGreatDoorNQa
namespace Go.Proofs.YtieifhfgedoiaaaGreatDoor
open Go Go.RowKit
set_option linter.unusedVariables false
section
variable {P : Program} {ops : Array Oper} {C : World → Prop} {n : Nat}
end
end Go.Proofs.YtieifhfgedoiaaaGreatDoor
