/-
  Numerals of 32 bits that are read.
-/
import Derived.Test.YtilchbhmaflhfaaDoorSimZ
import Derived.Lib.ParseIntBMem
namespace Go.Sim
open Go Go.RowKit
/-- What internal/strconv.ParseUint(s, 10, 32) answers. -/
def puB (s : ByteArray) : Int × Bool := match Lib.parseUintM 4294967295 0 s.data.toList with
  | .ok v => ((v : Int), false)
  | .syntax => (0, true)
  | .range => (4294967295, true)
end Go.Sim
