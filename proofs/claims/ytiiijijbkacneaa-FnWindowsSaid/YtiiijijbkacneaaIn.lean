/- A number between two. No condition. -/
import Derived.Test.YtiiijijbkacneaaHelp
namespace Go.Proofs.Ytiiijijbkacneaa
open Go.RowKit


















end Go.Proofs.Ytiiijijbkacneaa
