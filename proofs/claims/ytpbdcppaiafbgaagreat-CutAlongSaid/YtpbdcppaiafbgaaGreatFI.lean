/- Walks: certify.Is; sew.Sew's parts. -/
import Derived.Laws.EntriesVeiled
import Derived.Test.YtpbdcppaiafbgaaGreatFH
import Derived.Test.YtpbdcppaiafbgaaGreatBM
import Derived.Test.YtpbdcppaiafbgaaGreatEC
namespace Go.Mesh
end Go.Mesh
namespace Go.Words
open Go Go.RowKit Go.Mesh
end Go.Words
namespace Go.Proofs.YtpbdcppaiafbgaaGreat
open Go Go.RowKit Go.Words Go.Mesh

end Go.Proofs.YtpbdcppaiafbgaaGreat
