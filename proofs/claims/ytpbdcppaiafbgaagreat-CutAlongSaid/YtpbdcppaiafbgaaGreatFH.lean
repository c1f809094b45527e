/- Walk: sew.placed: do all edges of pairs stand at places, and each once. Walks: slices.Values, slices.Sorted, slices.Compact at []int; sew.right. -/
import Derived.Test.YtpbdcppaiafbgaaGreatFE
import Derived.Shelf.Slices.In.SortNone
import Derived.Shelf.Slices.CompactI
import Derived.Test.YtpbdcppaiafbgaaGreatTI
namespace Go.Mesh
end Go.Mesh
namespace Go.Proofs.YtpbdcppaiafbgaaGreat
open Go Go.RowKit Go.Words Go.Mesh

end Go.Proofs.YtpbdcppaiafbgaaGreat

namespace Go.Words
open Go Go.RowKit Go.Mesh Go.Sort Go.Shelf
end Go.Words
namespace Go.Proofs.YtpbdcppaiafbgaaGreat
open Go Go.RowKit Go.Words Go.Mesh
attribute [local go_sem] Oper.semAt_some

end Go.Proofs.YtpbdcppaiafbgaaGreat
