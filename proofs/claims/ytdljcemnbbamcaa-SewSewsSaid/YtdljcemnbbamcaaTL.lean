/- Walks: the document's With, Behind, At. -/
import Derived.Test.YtdljcemnbbamcaaTJ
import Derived.Test.YtdljcemnbbamcaaMP
namespace Go.Mesh
theorem vt_at (T : List T3) (c : Nat) : vt T (3 * (c / 3) + c % 3) = vt T c := by rw [Nat.div_add_mod]
theorem dirc_none {T : List T3} {a b : Int} (h : ∀ c, c < 3 * T.length → ¬ (vt T c = a ∧ vt T (nx c) = b)) : dirc T a b = none :=
  (leastFrom_none _ _ _).2 fun c _ hc => by
    have := h c (by omega)
    simpa using this
theorem dirc_at {T : List T3} {a b : Int} {c : Nat} (hc : c < 3 * T.length) (h1 : vt T c = a ∧ vt T (nx c) = b) (h : ∀ d, d < c → ¬ (vt T d = a ∧ vt T (nx d) = b)) : dirc T a b = some c :=
  (leastFrom_some _ _ _ _).2 ⟨by omega, by omega, by simpa using h1, fun d _ hd => by
    have := h d hd
    simpa using this⟩
theorem nx_three (i k : Nat) (hk : k < 3) : nx (3 * i + k) = 3 * i + (k + 1) % 3 := by unfold nx; omega
end Go.Mesh
namespace Go.Proofs.Ytdljcemnbbamcaa
open Go Go.RowKit Go.Words Go.Mesh

theorem tri_cells {w : World} {B cap : Nat} {A : Option Addr} {T : List T3} (h : Sl 3 RTri w B (.slice A T.length cap) T) {i : Nat} (hi : i < T.length) :
    ∃ b o, A = some ⟨b, o, none⟩ ∧ b < B ∧ ∀ k, k < 3 → w.cell? ⟨b, o + i * 3 + k, none⟩ = some (.int .i64 (Mesh.vt T (3 * i + k))) := by
  obtain ⟨b, o, h1, h2, h3⟩ := tri_cell h (n := 3 * i) (by omega)
  refine ⟨b, o, h1, h2, fun k hk => ?_⟩
  obtain ⟨b', o', g1, _, g3⟩ := tri_cell h (n := 3 * i + k) (by omega)
  rw [h1] at g1
  injection g1 with g1
  injection g1 with g1 g2
  subst g1; subst g2
  rw [show (3 * i + k) / 3 = i by omega, show (3 * i + k) % 3 = k by omega] at g3
  exact g3
end Go.Proofs.Ytdljcemnbbamcaa
