/- Walk: sew.Runs. Walk: sew.Pairs. -/
import Derived.Test.YtpbdcppaiafbgaaGreatFH
import Derived.Test.YtpbdcppaiafbgaaGreatGB
import Derived.Test.YtpbdcppaiafbgaaGreatBY
namespace Go.Words
open Go Go.RowKit Go.Mesh
end Go.Words
namespace Go.Proofs.YtpbdcppaiafbgaaGreat
open Go Go.RowKit Go.Words Go.Mesh

end Go.Proofs.YtpbdcppaiafbgaaGreat

namespace Go.Mesh
end Go.Mesh
namespace Go.Words
open Go Go.RowKit Go.Mesh
end Go.Words
namespace Go.Proofs.YtpbdcppaiafbgaaGreat
open Go Go.RowKit Go.Words Go.Mesh

end Go.Proofs.YtpbdcppaiafbgaaGreat
