/- Own rows of triangles, written in place. -/
import Derived.Test.YtpbdcppaiafbgaaTS
namespace Go.Words
open Go Go.RowKit Go.Mesh
section
variable {w : World} {base g n cap size : Nat} {e : TypeId} {xs : List Value}
theorem own_cellN {i : Nat} {u : Value} (h : w.ownsRow base e size (.slice (some ⟨g, 0, none⟩) n cap) n xs) (hi : xs[i]? = some u) : w.cell? ⟨g, i, none⟩ = some u ∧ w.frozen? ⟨g, i, none⟩ = false ∧ base ≤ g ∧ g < w.heap.size := by
  rcases h.2 with ⟨h1, _⟩ | ⟨g', cap', cur, h1, hb, hg, _, _, _, hx⟩
  · cases h1
  · injection h1 with h1
    injection h1 with h1
    injection h1 with h1
    subst h1
    have hbk : Bk w g e cur.toList := by unfold Bk; rw [hg]
    refine ⟨?_, hbk.frozen i, hb, (Array.getElem?_eq_some_iff.1 hg).1⟩
    rw [hbk.cell i]
    rw [← hx, List.getElem?_take] at hi
    split at hi
    · exact hi
    · cases hi
theorem own_set1 (h : w.ownsRow base e size (.slice (some ⟨g, 0, none⟩) n cap) n xs) (i : Nat) (u : Value) : (w.setCell ⟨g, i, none⟩ u).ownsRow base e size (.slice (some ⟨g, 0, none⟩) n cap) n (xs.set i u) := by
  refine ⟨by rw [List.length_set]; exact h.1, ?_⟩
  rcases h.2 with ⟨h1, _⟩ | ⟨g', cap', cur, h1, hb, hg, hle, hmax, hsz, hx⟩
  · cases h1
  · injection h1 with h1 _ h2
    injection h1 with h1
    injection h1 with h1
    subst h1; subst h2
    have hbk : Bk w g e cur.toList := by unfold Bk; rw [hg]
    have h2 := hbk.set i u
    unfold Bk at h2
    exact .inr ⟨g, cap, (cur.toList.set i u).toArray, rfl, hb, h2, hle, hmax, by simpa using hsz, by rw [← hx, List.take_set]⟩
end
end Go.Words
namespace Go.Proofs.Ytpbdcppaiafbgaa
open Go Go.RowKit Go.Words Go.Mesh
theorem triVals_set : ∀ (T : List T3) (j : Nat) (a b c : Int), triVals (T.set j (a, b, c)) = (((triVals T).set (j * 3) (.int .i64 a)).set (j * 3 + 1) (.int .i64 b)).set (j * 3 + 2) (.int .i64 c)
  | [], j, a, b, c => by simp [triVals]
  | t :: T, 0, a, b, c => by simp [triVals]
  | t :: T, j + 1, a, b, c => by
    rw [List.set_cons_succ, triVals, triVals, triVals_set T j a b c, show (j + 1) * 3 = j * 3 + 1 + 1 + 1 by omega]
    simp only [List.set_cons_succ]
theorem triVals_cell {T : List T3} {j : Nat} (h : j < T.length) : (triVals T)[j * 3]? = some (.int .i64 T[j].1) ∧ (triVals T)[j * 3 + 1]? = some (.int .i64 T[j].2.1) ∧ (triVals T)[j * 3 + 2]? = some (.int .i64 T[j].2.2) := by
  have h1 := (triVals_at T j T[j] (List.getElem?_eq_getElem h)).2
  have key : ∀ k, k < 3 → (triVals T)[j * 3 + k]? = (((triVals T).drop (j * 3)).take 3)[k]? := fun k hk => by rw [List.getElem?_take, if_pos hk, List.getElem?_drop]
  refine ⟨?_, ?_, ?_⟩
  · have := key 0 (by omega); rw [h1] at this; exact this
  · have := key 1 (by omega); rw [h1] at this; exact this
  · have := key 2 (by omega); rw [h1] at this; exact this
section
variable {w : World} {base g n cap : Nat} {e : TypeId} {T : List T3}
theorem own_tri_set (h : w.ownsRow base e 3 (.slice (some ⟨g, 0, none⟩) n cap) n (triVals T)) (j : Nat) (a b c : Int) :
    (((w.setCell ⟨g, j * 3, none⟩ (.int .i64 a)).setCell ⟨g, j * 3 + 1, none⟩ (.int .i64 b)).setCell ⟨g, j * 3 + 2, none⟩ (.int .i64 c)).ownsRow base e 3 (.slice (some ⟨g, 0, none⟩) n cap) n (triVals (T.set j (a, b, c))) := by
  rw [triVals_set]
  exact own_set1 (own_set1 (own_set1 h _ _) _ _) _ _
end
end Go.Proofs.Ytpbdcppaiafbgaa
