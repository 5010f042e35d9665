/- MachineNil: what the row lists, but the pinned tables. -/
import Derived.Test.YtdnlfkmfofckfaaGreatDoorRows
import Derived.LaidByTextLater
namespace Go.Proofs.YtdnlfkmfofckfaaGreatDoor
open Go
abbrev laidT : List (String × DataW Unit) := [("internal/strconv.uint64pow10", Rows.laid_internal_strconv_uint64pow10), ("math/bits.deBruijn32tab", Rows.laid_math_bits_deBruijn32tab), ("math/bits.deBruijn64tab", Rows.laid_math_bits_deBruijn64tab), ("unicode/utf8.acceptRanges", Rows.laid_unicode_utf8_acceptRanges), ("strconv.ErrSyntax", Rows.laid_strconv_ErrSyntax), ("strconv.ErrRange", Rows.laid_strconv_ErrRange)]
abbrev kindsT : List LaidKind := [.data, .data, .data, .data, .sentinel, .sentinel]
end Go.Proofs.YtdnlfkmfofckfaaGreatDoor
