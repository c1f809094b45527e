/- The law BayNear, walked. -/
import Derived.Test.YtpbdcppaiafbgaaGreatDI
import Derived.Test.YtpbdcppaiafbgaaGreatApp
import Derived.Test.YtpbdcppaiafbgaaGreatFP
namespace Go.Proofs.YtpbdcppaiafbgaaGreat
open Go Go.RowKit Go.Words Go.Mesh

end Go.Proofs.YtpbdcppaiafbgaaGreat
