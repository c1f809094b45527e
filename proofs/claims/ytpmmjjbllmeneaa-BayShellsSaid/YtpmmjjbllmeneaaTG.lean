/- Walks: ring.first. -/
import Derived.Test.YtpmmjjbllmeneaaME
import Derived.Test.YtpmmjjbllmeneaaMP
namespace Go.Proofs.Ytpmmjjbllmeneaa
open Go Go.RowKit Go.Words Go.Mesh

end Go.Proofs.Ytpmmjjbllmeneaa
