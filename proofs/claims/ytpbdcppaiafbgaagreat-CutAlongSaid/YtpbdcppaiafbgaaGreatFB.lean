/- Plain: runs of pairs of a loop's edges (sew, ref20); no program in sight. -/
import Derived.Test.YtpbdcppaiafbgaaGreatMesh
namespace Go.Mesh
end Go.Mesh
