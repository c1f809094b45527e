/- Own rows of triangles, written in place. -/
import Derived.Test.YtpbdcppaiafbgaaGreatTS
namespace Go.Words
open Go Go.RowKit Go.Mesh
section
variable {w : World} {base g n cap size : Nat} {e : TypeId} {xs : List Value}
theorem own_cellN {i : Nat} {u : Value} (h : w.ownsRow base e size (.slice (some ⟨g, 0, none⟩) n cap) n xs) (hi : xs[i]? = some u) : w.cell? ⟨g, i, none⟩ = some u ∧ w.frozen? ⟨g, i, none⟩ = false ∧ base ≤ g ∧ g < w.heap.size := by
  rcases h.2 with ⟨h1, _⟩ | ⟨g', cap', cur, h1, hb, hg, _, _, _, hx⟩
  · cases h1
  · injection h1 with h1
    injection h1 with h1
    injection h1 with h1
    subst h1
    have hbk : Bk w g e cur.toList := by unfold Bk; rw [hg]
    refine ⟨?_, hbk.frozen i, hb, (Array.getElem?_eq_some_iff.1 hg).1⟩
    rw [hbk.cell i]
    rw [← hx, List.getElem?_take] at hi
    split at hi
    · exact hi
    · cases hi
end
end Go.Words
namespace Go.Proofs.YtpbdcppaiafbgaaGreat
open Go Go.RowKit Go.Words Go.Mesh
section
variable {w : World} {base g n cap : Nat} {e : TypeId} {T : List T3}
end
end Go.Proofs.YtpbdcppaiafbgaaGreat
