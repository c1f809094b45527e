/- Walks: certify's lonely. -/
import Derived.Test.YtckkpmjkajkkmaaC2
import Derived.LoopN
namespace Go.Words
open Go Go.RowKit
theorem run_make_rep {P : Program} (t : TypeId) {e : TypeId} {z : Value} {bytes : Nat} (ht : P.underlying t = some (.slice e)) (hinfo : (P.info? e).map (fun i => (i.zero, i.size, i.bytes)) = some (some z, 1, bytes)) (hzc : z.cells = #[z])
    (n : Nat) (hn : n ≤ 1000000) (hb : bytes ≤ 1000) (w : World) :
    (Instr.makeSlice t (.int .i64 (n : Int)) (.int .i64 (n : Int))).run P w = .ok (.slice (some ⟨w.heap.size, 0, none⟩) n n) (w.alloc (.cells (List.replicate n z).toArray e)) := by
  obtain ⟨i0, hi, hz0, hz1, hz2⟩ := info_parts hinfo
  have hby : bytes * n ≤ 281474976710656 := by
    have : bytes * n ≤ 1000 * 1000000 := Nat.mul_le_mul hb hn
    omega
  have h : (i0.bytes : Int) * (n : Int) ≤ 281474976710656 := by
    have h : ((i0.bytes * n : Nat) : Int) ≤ 281474976710656 := by rw [hz2]; omega
    rwa [Int.natCast_mul] at h
  have hr := run_make (P := P) w t e i0 z ht hi hz0 .i64 .i64 n n (by omega) (by omega) h (by omega)
  simp only [Int.toNat_natCast] at hr
  rw [hr, hz1, hzc, Nat.mul_one, ← toList_madeCells_one]
end Go.Words
namespace Go.Mesh
/-- Is v a vertex of the triangle? -/
def HasV (t : T3) (v : Int) : Prop := v = t.1 ∨ v = t.2.1 ∨ v = t.2.2
def bvals (M : List Bool) : List Value := M.map fun b => .bool b
theorem bvals_set (M : List Bool) (i : Nat) : (bvals M).set i (.bool true) = bvals (M.set i true) := by unfold bvals; rw [List.map_set]
theorem marks_set (M : List Bool) (a i : Nat) (ha : a < M.length) : ((M.set a true).getD i false = true) ↔ (i = a ∨ M.getD i false = true) := by
  rw [List.getD_eq_getElem?_getD, List.getD_eq_getElem?_getD, List.getElem?_set]
  by_cases h : a = i
  · subst h; simp [ha]
  · simp only [h, if_false]
    exact ⟨.inr, fun h9 => h9.resolve_left fun e => h e.symm⟩
theorem marks_none (n u : Nat) : (List.replicate n false).getD u false = false := by
  rw [List.getD_eq_getElem?_getD, List.getElem?_replicate]; split <;> rfl
end Go.Mesh
namespace Go.Proofs.Ytckkpmjkajkkmaa
open Go Go.RowKit Go.Words Go.Mesh

theorem info_bool : (Try.prog.info? 4).map (fun i => (i.zero, i.size, i.bytes)) = some (some (.bool false), 1, 1) := by kernel_rfl

set_option maxRecDepth 20000 in
set_option maxHeartbeats 2000000 in
theorem lonely_calls (v : Value) (n : Nat) (T : List T3) (w : World) {B : Nat} (hB0 : B ≤ w.heap.size) (h : Sl 3 RTri w B v T) (hp : Plain n T) :
    Calls Try.prog 96 #[.agg #[.int .i64 (n : Int), v]] w fun e w' => (∃ v', e = .returned v' ∧ Wits w' w.heap.size v' 5 (∀ u : Nat, u < n → ∃ t ∈ T, HasV t u)) ∧ Below w.heap.size w w' := by
  obtain ⟨A, cap, rfl, hcap⟩ := h.form
  obtain ⟨p1, p2, p3, p4⟩ := hp
  have hb1 := (Below.refl w.heap.size w).alloc (Nat.le_refl _) (.cells #[.int .i64 n, .slice A T.length cap] 24)
  have hm1 := run_make_rep (P := Try.prog) 66 Try.underlying66 info_bool rfl n (by omega) (by omega)
  have hrep : List.replicate n (Value.bool false) = bvals (List.replicate n false) := by unfold bvals; rw [List.map_replicate]
  have hnew := Bk.new' (n := w.heap.size + 1) (w := w.alloc (.cells #[.int .i64 n, .slice A T.length cap] 24)) 4 (List.replicate n (.bool false)) (by simp)
  have hb2 := hb1.alloc (by simp) (.cells (List.replicate n (.bool false)).toArray 4)
  have Hh := Lib.hid h; clear h; have Hp4 := Lib.hid p4; clear p4; have Hhrep := Lib.hid hrep; clear hrep; have Hhnew := Lib.hid hnew; clear hnew
  go_enter Try.func96, Try.ntmps96
  go_wp2
  clear hm1
  go_loopw [17] (fun i wr => ∃ (k : Nat) (M : List Bool), k ≤ T.length ∧ i = .int .i64 k ∧ M.length = n ∧ (∀ u : Nat, M.getD u false = true ↔ ∃ t ∈ T.take k, HasV t u) ∧ Bk wr (w.heap.size + 1) 4 (bvals M) ∧ Below w.heap.size w wr)
    (fun i _ => T.length - (intOf i).toNat)
  case atStart => exact ⟨0, _, by omega, rfl, List.length_replicate, fun u => by rw [marks_none]; simp, by rw [← Hhrep.out]; exact Hhnew.out, hb2⟩
  case round =>
    obtain ⟨k, M, hk, rfl, hlen, hM, hbk, hbel⟩ := hrel
    have hz := hbel.size
    have hltb := hbk.lt
    by_cases hlt : k < T.length
    · obtain ⟨b, o, rfl, hb, c1, c2, c3⟩ := (Hh.out.below keeps_tri (hbel.mono hB0)).tri_at hlt
      have htk : T.take (k + 1) = T.take k ++ [T[k]] := List.take_succ_eq_append_getElem hlt
      have hin : ∀ u : Nat, (∃ t ∈ T.take (k + 1), HasV t u) ↔ (∃ t ∈ T.take k, HasV t u) ∨ HasV T[k] u := by
        intro u
        rw [htk]
        simp only [List.mem_append, List.mem_singleton]
        constructor
        · rintro ⟨t, ht | rfl, h9⟩
          · exact .inl ⟨t, ht, h9⟩
          · exact .inr h9
        · rintro (⟨t, ht, h9⟩ | h9)
          · exact ⟨t, .inl ht, h9⟩
          · exact ⟨_, .inr rfl, h9⟩
      have hr := Hp4.out _ (List.getElem_mem hlt)
      generalize hx : T[k] = x at *
      obtain ⟨x1, x2, x3⟩ := x
      unfold InR at hr
      simp only [] at c1 c2 c3 hr
      obtain ⟨⟨r1, r2⟩, ⟨r3, r4⟩, ⟨r5, r6⟩⟩ := hr
      obtain ⟨a1, rfl⟩ := Int.eq_ofNat_of_zero_le r1
      obtain ⟨a2, rfl⟩ := Int.eq_ofNat_of_zero_le r3
      obtain ⟨a3, rfl⟩ := Int.eq_ofNat_of_zero_le r5
      have hbA := hbel.alloc hz (.cells #[.int .i64 a1, .int .i64 a2, .int .i64 a3] 55)
      have hk1 := hbk.alloc (.cells #[.int .i64 a1, .int .i64 a2, .int .i64 a3] 55)
      have hbw : b < wr.heap.size := by omega
      have q1 := fun u => marks_set ((M.set a1 true).set a2 true) a3 u (by simp; omega)
      have q2 := fun u => marks_set (M.set a1 true) a2 u (by simp; omega)
      have q3 := fun u => marks_set M a1 u (by omega)
      have hM' : ∀ u : Nat, (((M.set a1 true).set a2 true).set a3 true).getD u false = true ↔ ∃ t ∈ T.take (k + 1), HasV t u := by
        intro u
        rw [q1, q2, q3, hin, hM]
        unfold HasV
        simp only []
        constructor
        · rintro (rfl | rfl | rfl | h9)
          · exact .inr (.inr (.inr rfl))
          · exact .inr (.inr (.inl rfl))
          · exact .inr (.inl rfl)
          · exact .inl h9
        · rintro (h9 | h9 | h9 | h9)
          · exact .inr (.inr (.inr h9))
          · exact .inr (.inr (.inl (by omega)))
          · exact .inr (.inl (by omega))
          · exact .inl (by omega)
      have ix0 := tri0
      have ix1 := tri1
      have ix2 := tri2
      have Hhx := Lib.hid hx; clear hx; have Hhtk := Lib.hid htk; clear htk; have Hhin := Lib.hid hin; clear hin; have HhM := Lib.hid hM; clear hM; have HhM' := Lib.hid hM'; clear hM'; have Hq1 := Lib.hid q1; clear q1; have Hq2 := Lib.hid q2; clear q2; have Hq3 := Lib.hid q3; clear q3; have Hhbk := Lib.hid hbk; clear hbk; have Hhk1 := Lib.hid hk1; clear hk1
      go_wp2_with fail
      clear c1 c2 c3
      obtain ⟨wo, hwo⟩ : ∃ wo : World, wo = wr.alloc (.cells #[.int .i64 a1, .int .i64 a2, .int .i64 a3] 55) := ⟨_, rfl⟩
      rw [← hwo] at hbA Hhk1 ⊢
      have hk1 := Hhk1.out
      have hzo : wr.heap.size + 1 ≤ wo.heap.size := by rw [hwo]; simp
      clear hwo
      have hk2 := hk1.set a1 (.bool true)
      have hk3 := hk2.set a2 (.bool true)
      have hk4 := hk3.set a3 (.bool true)
      rw [bvals_set, bvals_set, bvals_set] at hk4
      have hlb : (bvals M).length = n := by unfold bvals; simp [hlen]
      have f1 := hk1.frozen
      have f2 := hk2.frozen
      have f3 := hk3.frozen
      obtain ⟨u1, d1⟩ : ∃ u, wo.cell? ⟨w.heap.size + 1, a1, none⟩ = some u := by
        rw [hk1.cell]; exact ⟨_, List.getElem?_eq_getElem (by omega)⟩
      obtain ⟨u2, d2⟩ : ∃ u, (wo.setCell ⟨w.heap.size + 1, a1, none⟩ (.bool true)).cell? ⟨w.heap.size + 1, a2, none⟩ = some u := by
        rw [hk2.cell]; exact ⟨_, List.getElem?_eq_getElem (by simp; omega)⟩
      obtain ⟨u3, d3⟩ : ∃ u, ((wo.setCell ⟨w.heap.size + 1, a1, none⟩ (.bool true)).setCell ⟨w.heap.size + 1, a2, none⟩ (.bool true)).cell? ⟨w.heap.size + 1, a3, none⟩ = some u := by
        rw [hk3.cell]; exact ⟨_, List.getElem?_eq_getElem (by simp; omega)⟩
      have Hhk1 := Lib.hid hk1; clear hk1; have Hhk2 := Lib.hid hk2; clear hk2; have Hhk3 := Lib.hid hk3; clear hk3; have Hhk4 := Lib.hid hk4; clear hk4
      refine wp_loop_rounds 4 ?_
      rw [rounds_succ]
      go_wp2
      rw [rounds_succ]
      go_wp2
      rw [rounds_succ]
      go_wp2
      rw [rounds_succ]
      go_wp2
      exact ⟨⟨k + 1, _, by omega, by simp, by simp [hlen], HhM'.out, Hhk4.out, ((hbA.setCell (by simp) _).setCell (by simp) _).setCell (by simp) _⟩, by simp [intOf]; omega⟩
    · have hkl : k = T.length := by omega
      subst hkl
      rw [List.take_length] at hM
      obtain ⟨wo, hwo⟩ : ∃ wo : World, wo = wr := ⟨_, rfl⟩
      have HhM := Lib.hid hM; clear hM; have Hhbk := Lib.hid hbk; clear hbk
      go_wp2
      have HX : True := trivial
      go_loopw [8, 32] (fun l i wi => ∃ (k : Nat) (L : List T3), k ≤ n ∧ i = .int .i64 k ∧ wi.ownsRow (w.heap.size + 2) 61 3 l L.length (flat3 L) ∧ (L = [] ↔ ∀ u : Nat, u < k → M.getD u false = true) ∧ (∀ x ∈ L, x.1 = 5) ∧ L.length ≤ k ∧
          Bk wi (w.heap.size + 1) 4 (bvals M) ∧ Below w.heap.size w wi)
        (fun _ i _ => n - (intOf i).toNat)
      case atStart => exact ⟨0, [], by omega, rfl, World.ownsRow_nil _ _ _ _, by simp, by simp, by simp, Hhbk.out, hbel⟩
      case round =>
        obtain ⟨k, L, hk, rfl, hown, hL, hkind, hll, hbk, hbi⟩ := hrel
        have hzi := hbi.size
        have hlti := hbk.lt
        by_cases hlt : k < n
        · have d1 : wr.cell? ⟨w.heap.size + 1, k, none⟩ = some (.bool (M.getD k false)) := by
            rw [hbk.cell]; unfold bvals
            rw [List.getElem?_map, List.getElem?_eq_getElem (by omega), List.getD_eq_getElem?_getD, List.getElem?_eq_getElem (by omega)]; rfl
          have hst : (∀ u : Nat, u < k + 1 → M.getD u false = true) ↔ (∀ u : Nat, u < k → M.getD u false = true) ∧ M.getD k false = true :=
            ⟨fun h9 => ⟨fun u hu => h9 u (by omega), h9 k (by omega)⟩, fun h9 u hu => if he : u = k then he ▸ h9.2 else h9.1 u (by omega)⟩
          obtain ⟨A5, cap5, rfl, hcap5⟩ := own_form hown
          cases hmk : M.getD k false
          · rw [hmk] at d1 hst
            have bad : L ++ [(5, (k : Int), 0)] = [] ↔ ∀ u : Nat, u < k + 1 → M.getD u false = true := ⟨fun h9 => by simp at h9, fun h9 => by have := (hst.1 h9).2; cases this⟩
            have kinds : ∀ x ∈ L ++ [(5, (k : Int), 0)], x.1 = 5 := by
              intro x hx
              rcases List.mem_append.1 hx with h9 | h9
              · exact hkind x h9
              · have : x = (5, (k : Int), 0) := by simpa using h9
                rw [this]
            have hbk1 := hbk.alloc (.cells #[.int .i64 5, .int .i64 k, .int .i64 0] 61)
            have hbA := hbi.alloc hzi (.cells #[.int .i64 5, .int .i64 k, .int .i64 0] 61)
            have Hhown := Lib.hid hown; clear hown; have HhL := Lib.hid hL; clear hL; have Hhkind := Lib.hid hkind; clear hkind; have Hhbk := Lib.hid hbk; clear hbk; have Hhst := Lib.hid hst; clear hst; have Hhmk := Lib.hid hmk; clear hmk; have Hbad := Lib.hid bad; clear bad; have Hkinds := Lib.hid kinds; clear kinds; have Hhbk1 := Lib.hid hbk1; clear hbk1
            go_wp2_with (at_builtin; refine append_block _ rfl (.tmp 39) (.tmp 42) 93 rfl (w.heap.size + 2) info_wit Try.underlying93 rfl (by omega) _ L.length (flat3 L) rfl (Hhown.out.alloc _) wr.heap.size [.int .i64 5, .int .i64 k, .int .i64 0] rfl (Bk.new _ _ _) rfl (by simp [Value.oneCell']) (by omega) (by omega) (by simp; omega) ?_; intro v1 w1 hown1 hb9 _ _; have Hhown1 := Lib.hid hown1; clear hown1)
            exact ⟨⟨k + 1, _, by omega, by simp, by rw [flat3_snoc, List.length_append]; exact Hhown1.out, Hbad.out, Hkinds.out, by simp; omega, Hhbk1.out.below hb9 (by omega), hbA.trans (hb9.mono (by omega))⟩, by simp [intOf]; omega⟩
          · rw [hmk] at d1 hst
            have good : L = [] ↔ ∀ u : Nat, u < k + 1 → M.getD u false = true := by rw [hst, hL]; exact ⟨fun h9 => ⟨h9, rfl⟩, fun h9 => h9.1⟩
            have Hhown := Lib.hid hown; clear hown; have HhL := Lib.hid hL; clear hL; have Hhkind := Lib.hid hkind; clear hkind; have Hhbk := Lib.hid hbk; clear hbk; have Hhst := Lib.hid hst; clear hst; have Hhmk := Lib.hid hmk; clear hmk; have Hgood := Lib.hid good; clear good
            go_wp2
            exact ⟨⟨k + 1, L, by omega, by simp, Hhown.out, Hgood.out, Hhkind.out, by omega, Hhbk.out, hbi⟩, by simp [intOf]; omega⟩
        · have hkl : k = n := by omega
          subst hkl
          have good : L = [] ↔ ∀ u : Nat, u < k → ∃ t ∈ T, HasV t u := by
            rw [hL]
            exact ⟨fun h9 u hu => (HhM.out u).1 (h9 u hu), fun h9 u hu => (HhM.out u).2 (h9 u hu)⟩
          have Hhown := Lib.hid hown; clear hown; have HhL := Lib.hid hL; clear hL; have Hhkind := Lib.hid hkind; clear hkind; have Hhbk := Lib.hid hbk; clear hbk; have Hgood := Lib.hid good; clear good
          go_wp2
          go_ret
          exact ⟨⟨_, rfl, L, own_base Hhown.out (by omega), Hgood.out, Hhkind.out, by omega⟩, hbi⟩
end Go.Proofs.Ytckkpmjkajkkmaa
