/- OppositeLetter, IsWeight: contracts. -/
import Derived.Test.YtjiljcekcpemmaaOpp
namespace Go.Proofs.Ytjiljcekcpemmaa
open Go.RowKit

end Go.Proofs.Ytjiljcekcpemmaa
