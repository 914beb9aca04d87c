/-
  The tie's facts, one a text: names. Conditions: those that each statement below names, and no other.
-/
import Derived.Test.YtdicpkjblflgbaaGreatDoorRows
import Derived.LaidByTextLater
import Derived.SevenTiedAt
set_option linter.all false

/-
  The tie's facts, one a text: names.
-/
namespace Go.Proofs.YtdicpkjblflgbaaGreatDoor
open Go
set_option maxRecDepth 100000
noncomputable def tieList : List (String × DataW Unit) := [("internal/strconv.uint64pow10", Rows.laid_internal_strconv_uint64pow10), ("math/bits.deBruijn32tab", Rows.laid_math_bits_deBruijn32tab), ("math/bits.deBruijn64tab", Rows.laid_math_bits_deBruijn64tab), ("unicode/utf8.acceptRanges", Rows.laid_unicode_utf8_acceptRanges), ("strconv.ErrSyntax", Rows.laid_strconv_ErrSyntax), ("strconv.ErrRange", Rows.laid_strconv_ErrRange), ("typecase/props.lasts", Rows.laid_typecase_props_lasts)]
def tieKinds : List LaidKind := [.data, .data, .data, .data, .sentinel, .sentinel, .data]
end Go.Proofs.YtdicpkjblflgbaaGreatDoor
