/-
  The machine: from's inner round, the equality of texts.
-/
import Derived.Test.YtfgghbideoehjaaWmD
import Derived.Lib.SlicesS
namespace Go.Proofs.Ytfgghbideoehjaa
open Go.ChangeShapes Go.WideShapes Go.ChangeAt Go.RowKit
set_option linter.unusedVariables false
set_option linter.unusedSimpArgs false
set_option maxRecDepth 1000000

theorem str_beq (A B : ByteArray) : (A.toList == B.toList) = (A == B) := by
  have h : (A == B) = (A.data == B.data) := rfl
  rw [h, Bool.eq_iff_iff, Lib.bytes_beq_iff, beq_iff_eq]
  exact ⟨fun e => by rw [e], fun e => ByteArray.ext e⟩

end Go.Proofs.Ytfgghbideoehjaa
