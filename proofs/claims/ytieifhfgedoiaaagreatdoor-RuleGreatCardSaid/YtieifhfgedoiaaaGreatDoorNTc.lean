/- Whether a piece is what an item says, whether a rule fits, the first one that does: the document's hand. Conditions: those of each theorem. -/
import Derived.Test.YtieifhfgedoiaaaGreatDoorNTb
import Derived.Test.YtieifhfgedoiaaaGreatDoorNFd
import Derived.Great.Walk
namespace Go.Proofs.YtieifhfgedoiaaaGreatDoor
open Go.RowKit Go.Lib
set_option linter.unusedVariables false
set_option linter.unusedSimpArgs false
attribute [local go_sem] ExtS.cell ExtS.froz upE_value upE_skip upE_enter Ext.cell Ext.froz one_neq
end Go.Proofs.YtieifhfgedoiaaaGreatDoor
/- Whether a rule fits at a piece: the document's hand. Conditions: those of each theorem. -/
namespace Go.Proofs.YtieifhfgedoiaaaGreatDoor
open Go.RowKit Go.Lib
set_option linter.unusedVariables false
set_option linter.unusedSimpArgs false
attribute [local go_sem] ExtS.cell ExtS.froz upE_value upE_skip upE_enter Ext.cell Ext.froz one_neq
end Go.Proofs.YtieifhfgedoiaaaGreatDoor
