/-
  The tables and errors that the row lists, as they are laid. Conditions: none.
-/
import Derived.Test.YtppjodfehhlniaaGreatDoorRows
import Derived.LaidOnce
set_option linter.unusedVariables false
set_option linter.unusedSimpArgs false
set_option linter.unusedSectionVars false
set_option linter.deprecated false
section
namespace Go.Proofs.YtppjodfehhlniaaGreatDoor
def laidL : List (String × DataW Unit) := [("unicode/utf8.acceptRanges", Rows.laid_unicode_utf8_acceptRanges), ("strconv.ErrSyntax", Rows.laid_strconv_ErrSyntax), ("strconv.ErrRange", Rows.laid_strconv_ErrRange), ("internal/strconv.uint64pow10", Rows.laid_internal_strconv_uint64pow10), ("math/bits.deBruijn32tab", Rows.laid_math_bits_deBruijn32tab), ("math/bits.deBruijn64tab", Rows.laid_math_bits_deBruijn64tab)]
theorem zvX : Tryz.prog.worded (varsWordLater true) = true := by kernel_rfl
theorem zvR : Tryz.prog.worded (varsWordLater !true) = false := by kernel_rfl
theorem ztK : Tryz.prog.worded rootWordLater = true := by kernel_rfl
theorem zvY : (Tryz.prog.funcNamed "gosem.cut.vars").isSome = true := by kernel_rfl
theorem zvZ : laidL.map (fun x => Tryz.prog.kindOfLater x.1) = [LaidKind.data, .sentinel, .sentinel, .data, .data, .data].map some := by kernel_rfl
end Go.Proofs.YtppjodfehhlniaaGreatDoor
end
