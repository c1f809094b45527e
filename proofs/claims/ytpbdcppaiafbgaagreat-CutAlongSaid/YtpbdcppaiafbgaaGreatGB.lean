/- Plain: the edges of a loop, and the places of pairs of them (sew.Runs, sew.Pairs); no program in sight. -/
import Derived.Test.YtpbdcppaiafbgaaGreatFB
import Derived.Test.YtpbdcppaiafbgaaGreatFH
namespace Go.Mesh
end Go.Mesh
