/- A region that draws its order, whose first p operations read or call what only makes new memory and come ahead of all others: walked once up to there, then in any order that is left. Conditions: the program follows mixed orders; the order of the region passes the check headB. -/
import Derived.Test.YtieifhfgedoiaaaGreatDoorNQw
namespace Go.Proofs.YtieifhfgedoiaaaGreatDoor
open Go Go.RowKit
set_option linter.unusedVariables false
end Go.Proofs.YtieifhfgedoiaaaGreatDoor
