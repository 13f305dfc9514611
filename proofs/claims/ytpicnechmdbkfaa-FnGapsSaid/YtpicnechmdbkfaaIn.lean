/- A number between two. No condition. -/
import Derived.Test.YtpicnechmdbkfaaHelp
namespace Go.Proofs.Ytpicnechmdbkfaa
open Go.RowKit


















end Go.Proofs.Ytpicnechmdbkfaa
