/- eqWeighted(S): contracts for equal values. -/
import Derived.Test.YtlloeinpcnlgcaaWo2
import Derived.Test.YtlloeinpcnlgcaaSym
namespace Go.Proofs.Ytlloeinpcnlgcaa
open Go.RowKit

attribute [local go_sem ↓] Go.wp_at_zero Go.wp_at_succ
end Go.Proofs.Ytlloeinpcnlgcaa
