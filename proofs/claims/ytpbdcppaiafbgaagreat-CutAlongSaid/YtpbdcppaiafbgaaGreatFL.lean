/- Walks: law20's given, plainRuns; ref20's SameRuns; ref08's Ints, Same. -/
import Derived.Test.YtpbdcppaiafbgaaGreatEQ
import Derived.Test.YtpbdcppaiafbgaaGreatFI
import Derived.Test.YtpbdcppaiafbgaaGreatFK
namespace Go.Proofs.YtpbdcppaiafbgaaGreat
open Go Go.RowKit Go.Words Go.Mesh

end Go.Proofs.YtpbdcppaiafbgaaGreat
