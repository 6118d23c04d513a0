/-
  Maintenance plans: joined.
-/
import Derived.Test.YtogalpcheddenaaLawU
import Derived.Test.YtogalpcheddenaaUpkS
namespace Go.Proofs.Ytogalpcheddenaa
open Go.Sim
theorem upkeepCrews_proved : Rows.UpkeepCrewsSaid := UpkeepCrews_law fun x o => UpkeepCrews_true x fun j hj => (o.1.2 j hj).1
theorem upkeepAlone_proved : Rows.UpkeepAloneSaid := UpkeepAlone_law fun x o => UpkeepAlone_true x fun j hj => (o.1.2 j hj).1
theorem upkeepVerified_proved : Rows.UpkeepVerifiedSaid := UpkeepVerified_law fun x y o _ => UpkeepVerified_true x y fun j hj => (o.1.2 j hj).1
end Go.Proofs.Ytogalpcheddenaa
