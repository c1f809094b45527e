/- Walks: certify's loop. -/
import Derived.Test.YtckkpmjkajkkmaaC1
namespace Go.Proofs.Ytckkpmjkajkkmaa
open Go Go.RowKit Go.Words Go.Mesh

set_option maxRecDepth 20000 in
set_option maxHeartbeats 1000000 in
theorem loop_calls (v : Value) (N : Int) (T : List T3) (w : World) {B : Nat} (hB0 : B ≤ w.heap.size) (h : Sl 3 RTri w B v T) (p3 : T.length ≤ 8192) :
    Calls Try.prog 93 #[.agg #[.int .i64 N, v]] w fun e w' => (∃ v', e = .returned v' ∧ Wits w' w.heap.size v' 2 (∀ t ∈ T, Three t)) ∧ Below w.heap.size w w' := by
  obtain ⟨A, cap, rfl, hcap⟩ := h.form
  have hb1 := (Below.refl w.heap.size w).alloc (Nat.le_refl _) (.cells #[.int .i64 N, .slice A T.length cap] 24)
  have Hh := Lib.hid h; clear h
  go_enter Try.func93, Try.ntmps93
  go_wp2
  go_loopw [3, 9] (fun l i wr => ∃ (k : Nat) (L : List T3), k ≤ T.length ∧ i = .int .i64 k ∧ wr.ownsRow w.heap.size 61 3 l L.length (flat3 L) ∧ (L = [] ↔ ∀ t ∈ T.take k, Three t) ∧ (∀ x ∈ L, x.1 = 2) ∧ L.length ≤ k ∧ Below w.heap.size w wr)
    (fun _ i _ => T.length - (intOf i).toNat)
  case atStart => exact ⟨0, [], by omega, rfl, World.ownsRow_nil _ _ _ _, by simp, by simp, by simp, hb1⟩
  case round =>
    obtain ⟨k, L, hk, rfl, hown, hL, hkind, hlen, hbel⟩ := hrel
    have hz := hbel.size
    by_cases hlt : k < T.length
    · obtain ⟨b, o, rfl, hb, c1, c2, c3⟩ := (Hh.out.below keeps_tri (hbel.mono hB0)).tri_at hlt
      have htk : T.take (k + 1) = T.take k ++ [T[k]] := List.take_succ_eq_append_getElem hlt
      have hin : (∀ t ∈ T.take (k + 1), Three t) ↔ (∀ t ∈ T.take k, Three t) ∧ Three T[k] := by
        rw [htk]
        simp only [List.mem_append, List.mem_singleton]
        exact ⟨fun h9 => ⟨fun t ht => h9 t (.inl ht), h9 _ (.inr rfl)⟩, fun h9 t ht => ht.elim (h9.1 t) fun e => e ▸ h9.2⟩
      generalize hx : T[k] = x at *
      obtain ⟨x1, x2, x3⟩ := x
      simp only [] at c1 c2 c3
      have hbA := hbel.alloc hz (.cells #[.int .i64 x1, .int .i64 x2, .int .i64 x3] 55)
      have o1 := hown.alloc (.cells #[.int .i64 x1, .int .i64 x2, .int .i64 x3] 55)
      obtain ⟨A5, cap5, rfl, hcap5⟩ := own_form hown
      have hbw : b < wr.heap.size := by omega
      have Hhown := Lib.hid hown; clear hown; have Hhx := Lib.hid hx; clear hx; have Hhtk := Lib.hid htk; clear htk; have Ho1 := Lib.hid o1; clear o1
      by_cases ht : x1 ≠ x2 ∧ x2 ≠ x3 ∧ x3 ≠ x1
      · have hL' : L = [] ↔ ∀ t ∈ T.take (k + 1), Three t := by rw [hin, hL]; exact ⟨fun h8 => ⟨h8, ht⟩, fun h8 => h8.1⟩
        obtain ⟨t1, t2, t3⟩ := ht
        have Hhin := Lib.hid hin; clear hin; have HhL := Lib.hid hL; clear hL; have HhL' := Lib.hid hL'; clear hL'; have Hhkind := Lib.hid hkind; clear hkind
        go_wp2
        exact ⟨⟨k + 1, L, by omega, by simp, Ho1.out, HhL'.out, Hhkind.out, by omega, hbA⟩, by simp [intOf]; omega⟩
      · have bad : L ++ [(2, (k : Int), 0)] = [] ↔ ∀ t ∈ T.take (k + 1), Three t := ⟨fun h9 => by simp at h9, fun h9 => absurd (hin.1 h9).2 ht⟩
        have kinds : ∀ x ∈ L ++ [(2, (k : Int), 0)], x.1 = 2 := by
          intro x hx
          rcases List.mem_append.1 hx with h9 | h9
          · exact hkind x h9
          · have : x = (2, (k : Int), 0) := by simpa using h9
            rw [this]
        have h3 : x1 = x2 ∨ (x1 ≠ x2 ∧ (x2 = x3 ∨ (x2 ≠ x3 ∧ x3 = x1))) := by omega
        have Hhin := Lib.hid hin; clear hin; have HhL := Lib.hid hL; clear hL; have Hhkind := Lib.hid hkind; clear hkind; have Hbad := Lib.hid bad; clear bad; have Hkinds := Lib.hid kinds; clear kinds
        clear ht
        rcases h3 with rfl | ⟨t1, rfl | ⟨t2, rfl⟩⟩
        all_goals
          go_wp2_with (at_builtin; refine append_block _ rfl (.tmp 33) (.tmp 36) 93 rfl w.heap.size info_wit Try.underlying93 rfl (by omega) _ L.length (flat3 L) rfl (Ho1.out.alloc _) (wr.heap.size + 1) [.int .i64 2, .int .i64 k, .int .i64 0] rfl (Bk.new' _ _ (by simp)) rfl (by simp [Value.oneCell']) (by omega) (by omega) (by simp; omega) ?_; intro v1 w1 hown1 hb9 _ _; have Hhown1 := Lib.hid hown1; clear hown1)
          exact ⟨⟨k + 1, _, by omega, by simp, by rw [flat3_snoc, List.length_append]; exact Hhown1.out, Hbad.out, Hkinds.out, by simp; omega, (hbA.alloc (by simp; omega) _).trans hb9⟩, by simp [intOf]; omega⟩
    · have hkl : k = T.length := by omega
      subst hkl
      rw [List.take_length] at hL
      have Hhown := Lib.hid hown; clear hown; have HhL := Lib.hid hL; clear hL; have Hhkind := Lib.hid hkind; clear hkind
      go_wp2
      go_ret
      exact ⟨⟨_, rfl, L, Hhown.out, HhL.out, Hhkind.out, by omega⟩, hbel⟩
end Go.Proofs.Ytckkpmjkajkkmaa
