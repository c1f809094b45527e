/- The law RingTells, walked. -/
import Derived.Test.YtdljcemnbbamcaaTT
namespace Go.Proofs.Ytdljcemnbbamcaa
open Go Go.RowKit Go.Words Go.Mesh

theorem linkAt_nil (v : Int) : linkAt [] 0 v = [] := by unfold linkAt; rw [ringAt_nil]; rfl
theorem innerAt_nil (v : Int) : innerAt [] 0 v = false := by unfold innerAt; rw [if_neg (by omega)]
theorem near_nil (v w : Int) : near [] v w = false := rfl
end Go.Proofs.Ytdljcemnbbamcaa
