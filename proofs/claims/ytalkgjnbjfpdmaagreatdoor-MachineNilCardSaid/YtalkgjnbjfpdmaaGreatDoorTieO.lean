/- The list of the six variables whose data the program's text lays. No condition. -/
import Derived.Test.YtalkgjnbjfpdmaaGreatDoorRows
import Derived.LaidByTextLater
import Derived.SevenTiedAt
namespace Go.Proofs.YtalkgjnbjfpdmaaGreatDoor
open Go
noncomputable def laidSix : List (String × DataW Unit) := [("unicode/utf8.acceptRanges", Rows.laid_unicode_utf8_acceptRanges), ("transit/route.names", Rows.laid_transit_route_names), ("transit/message.words", Rows.laid_transit_message_words), ("internal/strconv.uint64pow10", Rows.laid_internal_strconv_uint64pow10), ("math/bits.deBruijn32tab", Rows.laid_math_bits_deBruijn32tab), ("math/bits.deBruijn64tab", Rows.laid_math_bits_deBruijn64tab)]
end Go.Proofs.YtalkgjnbjfpdmaaGreatDoor
