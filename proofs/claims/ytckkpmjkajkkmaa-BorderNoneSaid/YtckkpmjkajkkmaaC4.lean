/- Walks: certify's keys of a triangle's edges. -/
import Derived.Test.YtckkpmjkajkkmaaC3
namespace Go.Mesh
def keys2 (t : T3) : List T3 := [(t.1, t.2.1, 0), (t.2.1, t.2.2, 0), (t.2.2, t.1, 0)]
end Go.Mesh
namespace Go.Proofs.Ytckkpmjkajkkmaa
open Go Go.RowKit Go.Words Go.Mesh

theorem flat3_at (l : List T3) : ∀ (i : Nat) (b : T3), l[i]? = some b → ((flat3 l).drop (i * 3)).take 3 = [.int .i64 b.1, .int .i64 b.2.1, .int .i64 b.2.2] := by
  induction l with
  | nil => intro i b h; simp at h
  | cons x l ih =>
    intro i b h
    cases i with
    | zero =>
      simp only [List.getElem?_cons_zero, Option.some.injEq] at h
      subst h
      rfl
    | succ i =>
      rw [List.getElem?_cons_succ] at h
      have := ih i b h
      unfold flat3 at this ⊢
      rw [List.flatMap_cons, Nat.succ_mul, Nat.add_comm (i * 3) 3, ← List.drop_drop]
      exact this
theorem flat3_len (l : List T3) : (flat3 l).length = l.length * 3 := by
  induction l with
  | nil => rfl
  | cons x l ih =>
    unfold flat3 at ih ⊢
    rw [List.flatMap_cons, List.length_append, ih, List.length_cons]
    simp
    omega
theorem block_tris {w : World} {g : Nat} {t : TypeId} {l : List T3} (hb : Bk w g t (flat3 l)) {cap : Nat} (hc : l.length ≤ cap) : Sl 3 RTri w w.heap.size (.slice (some ⟨g, 0, none⟩) l.length cap) l :=
  Sl.of_block hb hc fun i a hi => by
    have hlt := (List.getElem?_eq_some_iff.1 hi).1
    refine ⟨by rw [flat3_len]; omega, flat3_at l i a hi⟩

set_option maxHeartbeats 1000000 in
theorem twicekeys_calls (t : T3) (w : World) :
    Calls Try.prog 104 #[.agg #[.int .i64 t.1, .int .i64 t.2.1, .int .i64 t.2.2]] w fun e w' => (∃ v', e = .returned v' ∧ Sl 3 RTri w' w'.heap.size v' (keys2 t)) ∧ Below w.heap.size w w' := by
  obtain ⟨x1, x2, x3⟩ := t
  go_enter Try.func104, Try.ntmps104
  go_wp2
  go_ret
  refine ⟨⟨_, rfl, ?_⟩, (by repeat (first | exact Below.refl _ _ | assumption | refine Below.drew ?_ | refine Below.setCell ?_ (by first | omega | (simp <;> omega)) _ | refine Below.alloc ?_ (by first | omega | (simp <;> omega)) _ | refine below_drewN ?_ _))⟩
  have := block_tris (l := keys2 (x1, x2, x3)) (cap := 3) (Bk.new' (n := w.heap.size + 1) (w := w.alloc (.cells #[.int .i64 x1, .int .i64 x2, .int .i64 x3] 55)) 54 (flat3 (keys2 (x1, x2, x3))) (by simp)) (Nat.le_refl _)
  exact this
end Go.Proofs.Ytckkpmjkajkkmaa
