/-
  The tie's closed facts, one by one: the first.
-/
import Derived.Test.YtglmnkoophfllaaGreatDoorRows
import Derived.LaidByTextLater
import Derived.SevenTiedAt
namespace Go.Proofs.YtglmnkoophfllaaGreatDoor.deskNil
open Go
def laidL : List (String × DataW Unit) := [("unicode/utf8.acceptRanges", Rows.laid_unicode_utf8_acceptRanges), ("strconv.ErrSyntax", Rows.laid_strconv_ErrSyntax), ("strconv.ErrRange", Rows.laid_strconv_ErrRange), ("internal/strconv.uint64pow10", Rows.laid_internal_strconv_uint64pow10), ("math/bits.deBruijn32tab", Rows.laid_math_bits_deBruijn32tab), ("math/bits.deBruijn64tab", Rows.laid_math_bits_deBruijn64tab), ("drowse/kern.none", Rows.laid_drowse_kern_none)]
theorem hw : Tryz.prog.worded (varsWordLater true) = true := by kernel_rfl
theorem hw' : Tryz.prog.worded (varsWordLater !true) = false := by kernel_rfl
theorem hroot : Tryz.prog.worded rootWordLater = true := by kernel_rfl
theorem hk : laidL.map (fun x => Tryz.prog.kindOfLater x.1) = ([.data, .sentinel, .sentinel, .data, .data, .data, .data] : List LaidKind).map some := by kernel_rfl
theorem hg : (Tryz.prog.funcNamed "gosem.cut.vars").isSome = true := by kernel_rfl
theorem hp : (laidL.all fun x => x.2.handleName?.isNone) = true := by kernel_rfl
end Go.Proofs.YtglmnkoophfllaaGreatDoor.deskNil
