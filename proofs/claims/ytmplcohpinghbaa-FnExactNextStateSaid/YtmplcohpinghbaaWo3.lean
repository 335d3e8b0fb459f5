/- eqWeighted(S): contracts for equal values. -/
import Derived.Test.YtmplcohpinghbaaWo2
import Derived.Test.YtmplcohpinghbaaSym
namespace Go.Proofs.Ytmplcohpinghbaa
open Go.RowKit

attribute [local go_sem ↓] Go.wp_at_zero Go.wp_at_succ
end Go.Proofs.Ytmplcohpinghbaa
