/- Contracts of num: PutLe, PutBe. -/
import Derived.Test.YtkgeccmpekclcaaNumB
namespace Go.Proofs.Ytkgeccmpekclcaa
open Go Go.RowKit
set_option maxRecDepth 100000

end Go.Proofs.Ytkgeccmpekclcaa
