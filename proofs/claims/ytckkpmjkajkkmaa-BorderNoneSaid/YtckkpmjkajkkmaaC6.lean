/- Walks: certify's twice. -/
import Derived.Test.YtckkpmjkajkkmaaC5
namespace Go.Proofs.Ytckkpmjkajkkmaa
open Go Go.RowKit Go.Words Go.Mesh

set_option maxHeartbeats 1000000 in
theorem twicekeys_block (t : T3) (w : World) :
    Calls Try.prog 104 #[enc3 t] w fun e w' => (∃ gk, e = .returned (.slice (some ⟨gk, 0, none⟩) (keys2 t).length (keys2 t).length) ∧ Bk w' gk 54 (flat3 (keys2 t))) ∧ Below w.heap.size w w' := by
  obtain ⟨x1, x2, x3⟩ := t
  show Calls Try.prog 104 #[.agg #[.int .i64 x1, .int .i64 x2, .int .i64 x3]] w _
  go_enter Try.func104, Try.ntmps104
  go_wp2
  go_ret
  exact ⟨⟨_, rfl, Bk.new' (n := w.heap.size + 1) (w := w.alloc (.cells #[.int .i64 x1, .int .i64 x2, .int .i64 x3] 55)) 54 (flat3 (keys2 (x1, x2, x3))) (by simp)⟩, (by repeat (first | exact Below.refl _ _ | assumption | refine Below.drew ?_ | refine Below.setCell ?_ (by first | omega | (simp <;> omega)) _ | refine Below.alloc ?_ (by first | omega | (simp <;> omega)) _ | refine below_drewN ?_ _))⟩
/-- Small enough to be a key. -/
theorem keys2_ok {N : Int} {T : List T3} (hp : Plain N T) : ∀ t ∈ T, ∀ x ∈ keys2 t, ok3 x := by
  intro t ht x hx
  obtain ⟨p1, p2, p3, p4⟩ := hp
  obtain ⟨⟨r1, r2⟩, ⟨r3, r4⟩, ⟨r5, r6⟩⟩ := p4 t ht
  have h0 : I64 0 := by unfold I64; omega
  have h1 : I64 t.1 := by unfold I64; omega
  have h2 : I64 t.2.1 := by unfold I64; omega
  have h3 : I64 t.2.2 := by unfold I64; omega
  unfold keys2 at hx
  simp only [List.mem_cons, List.not_mem_nil, or_false] at hx
  rcases hx with rfl | rfl | rfl
  · exact ⟨h1, h2, h0⟩
  · exact ⟨h2, h3, h0⟩
  · exact ⟨h3, h1, h0⟩
set_option maxHeartbeats 1000000 in
theorem twice_calls (v : Value) (N : Int) (T : List T3) (w : World) {B : Nat} (hB0 : B ≤ w.heap.size) (h : Sl 3 RTri w B v T) (hp : Plain N T) :
    Calls Try.prog 94 #[.agg #[.int .i64 N, v]] w fun e w' => (∃ v', e = .returned v' ∧ Wits w' w.heap.size v' 3 (T.flatMap keys2).Nodup) ∧ Below w.heap.size w w' := by
  have hc := fun w hB h => pairs_calls 104 (.inl rfl) 3 keys2 v N T w (B := B) hB h hp.2.2.1 (fun t w _ => twicekeys_block t w) (fun t => Nat.le_refl _) (keys2_ok hp)
  obtain ⟨A, cap, rfl, hcap⟩ := h.form
  have hb1 := (Below.refl w.heap.size w).alloc (Nat.le_refl _) (.cells #[.int .i64 N, .slice A T.length cap] 24)
  clear hp
  have Hh := Lib.hid h; clear h; have Hhc := Lib.hid hc; clear hc
  go_enter Try.func94, Try.ntmps94
  go_wp2_with fail
  refine (Hhc.out _ (by simp; omega) (Hh.out.below keeps_tri (hb1.mono hB0))).mono ?_
  rintro e w1 ⟨⟨v', rfl, L, o1, o2, o3, o4⟩, hb2⟩
  have hbel := below_call hb1 hb2 hb1.size
  have o1 := own_base o1 hb1.size
  have Ho1 := Lib.hid o1; clear o1; have Ho2 := Lib.hid o2; clear o2; have Ho3 := Lib.hid o3; clear o3; have Ho4 := Lib.hid o4; clear o4
  go_wp2
  go_ret
  exact ⟨⟨_, rfl, L, Ho1.out, Ho2.out, Ho3.out, Ho4.out⟩, hbel⟩
end Go.Proofs.Ytckkpmjkajkkmaa
