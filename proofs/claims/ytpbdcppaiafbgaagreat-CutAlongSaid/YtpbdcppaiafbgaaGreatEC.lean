/- Walk: certify.Is. -/
import Derived.Test.YtpbdcppaiafbgaaGreatBM
namespace Go.Proofs.YtpbdcppaiafbgaaGreat
open Go Go.RowKit Go.Words Go.Mesh
end Go.Proofs.YtpbdcppaiafbgaaGreat
