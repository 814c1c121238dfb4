/- Functions of numbers and lists, printed by a program of ours out of the code for the tree level, with their proofs. -/
import Derived.Test.YtnimkejbeogciaaDc
import Derived.Test.YtnimkejbeogciaaTcG
set_option linter.unusedVariables false
set_option linter.unusedSimpArgs false
set_option linter.unusedSectionVars false
namespace Go.Proofs.Ytnimkejbeogciaa
open Go Go.RowKit Sh Ic
theorem CL : (∀ x : ByteArray,bytesTV x = List.map (TV.int .u8) (bytesL x)) := bytesTV_L
end Go.Proofs.Ytnimkejbeogciaa
