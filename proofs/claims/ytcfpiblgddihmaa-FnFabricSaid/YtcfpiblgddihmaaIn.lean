/- A number between two. No condition. -/
import Derived.Test.YtcfpiblgddihmaaHelp
namespace Go.Proofs.Ytcfpiblgddihmaa
open Go.RowKit


















end Go.Proofs.Ytcfpiblgddihmaa
