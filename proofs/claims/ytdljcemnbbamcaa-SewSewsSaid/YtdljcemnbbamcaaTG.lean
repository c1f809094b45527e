/- Walks: ring.first. -/
import Derived.Test.YtdljcemnbbamcaaME
import Derived.Test.YtdljcemnbbamcaaMP
namespace Go.Proofs.Ytdljcemnbbamcaa
open Go Go.RowKit Go.Words Go.Mesh

end Go.Proofs.Ytdljcemnbbamcaa
