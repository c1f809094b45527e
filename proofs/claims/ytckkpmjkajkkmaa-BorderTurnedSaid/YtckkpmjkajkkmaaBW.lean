/- Walks: ref08's Mirror, Rename, Turned, Perm. -/
import Derived.Test.YtckkpmjkajkkmaaBR
namespace Go.Proofs.Ytckkpmjkajkkmaa
open Go Go.RowKit Go.Words Go.Mesh

set_option maxRecDepth 20000 in
set_option maxHeartbeats 1000000 in
theorem mirror08_calls {w : World} {B : Nat} {sv : Value} {N : Int} {T : List T3} (hT : Sl 3 RTri w B sv T) (hB0 : B ≤ w.heap.size) (hfew : T.length ≤ 8192) :
    Calls Try.prog 42 #[.agg #[.int .i64 N, sv]] w fun e w' => (∃ r, e = .returned (.agg #[.int .i64 N, r]) ∧ w'.ownsRow w.heap.size 55 3 r T.length (triVals (mir T))) ∧ Below w.heap.size w w' := by
  obtain ⟨A, cap, rfl, hcap⟩ := hT.form
  have HhT := Lib.hid hT; clear hT
  go_enter Try.func42, Try.ntmps42
  go_wp2_with fail
  obtain ⟨w0, hw0⟩ : ∃ w0, w0 = (((w.alloc (.cells #[.int .i64 N, .slice A T.length cap] 24)).alloc (.cells #[.int .i64 0, .slice none 0 0] 24)).alloc (.cells #[.int .i64 N, .slice none 0 0] 24)) := ⟨_, rfl⟩
  have hB1 : Below w.heap.size w w0 := by
    rw [hw0]; exact (((Below.refl _ w).alloc (Nat.le_refl _) _).alloc (by simp) _).alloc (by simp; omega) _
  have hk0 : Bk w0 w.heap.size 24 [.int .i64 N, .slice A T.length cap] := by rw [hw0]; exact ((Bk.new w _ _).alloc _).alloc _
  have hk1 : Bk w0 (w.heap.size + 1) 24 [.int .i64 0, .slice none 0 0] := by rw [hw0]; exact (Bk.new' _ _ (by simp)).alloc _
  have hk2 : Bk w0 (w.heap.size + 1 + 1) 24 [.int .i64 N, .slice none 0 0] := by rw [hw0]; exact Bk.new' _ _ (by simp)
  have hz0 : w.heap.size + 3 ≤ w0.heap.size := by rw [hw0]; simp
  rw [← hw0]
  clear hw0
  go_loopw [4] (fun i wr => ∃ (k : Nat) (r : Value), k ≤ T.length ∧ i = .int .i64 k ∧ Bk wr w.heap.size 24 [.int .i64 N, .slice A T.length cap] ∧ Bk wr (w.heap.size + 1) 24 [.int .i64 0, .slice none 0 0] ∧ Bk wr (w.heap.size + 1 + 1) 24 [.int .i64 N, r] ∧ wr.ownsRow (w.heap.size + 3) 55 3 r k (triVals (mir (T.take k))) ∧ Below w.heap.size w wr ∧ w.heap.size + 3 ≤ wr.heap.size) (fun i _ => T.length - (intOf i).toNat)
  case atStart => exact ⟨0, _, by omega, rfl, hk0, hk1, hk2, World.ownsRow_nil _ _ _ _, hB1, hz0⟩
  case round =>
    obtain ⟨k, r, hk, rfl, b0, b1, b2, hown, hbel, hz⟩ := hrel
    obtain ⟨A3, cap3, rfl, hc3⟩ := own_form hown
    have c0 : wr.cell? ⟨w.heap.size + 1 + 1, 0, none⟩ = some (.int .i64 N) := b2.cell 0
    have c1 : wr.cell? ⟨w.heap.size + 1 + 1, 1, none⟩ = some (.slice A3 k cap3) := b2.cell 1
    have a0 : wr.cell? ⟨w.heap.size, 0, none⟩ = some (.int .i64 N) := b0.cell 0
    have a1 : wr.cell? ⟨w.heap.size, 1, none⟩ = some (.slice A T.length cap) := b0.cell 1
    by_cases hkl : k < T.length
    · obtain ⟨b, o, rfl, hb, t1, t2, t3⟩ := (HhT.out.below keeps_tri (hbel.mono hB0)).tri_at hkl
      have htk : triVals (mir (T.take (k + 1))) = triVals (mir (T.take k)) ++ [.int .i64 T[k].1, .int .i64 T[k].2.2, .int .i64 T[k].2.1] := by
        rw [List.take_succ_eq_append_getElem hkl]
        unfold mir
        rw [List.map_append, List.map_cons, List.map_nil, triVals_snoc]
        rfl
      generalize T[k] = x at *
      obtain ⟨x1, x2, x3⟩ := x
      simp only [] at t1 t2 t3 htk
      have hbw : b < wr.heap.size := by omega
      have Hb0 := Lib.hid b0; have Hb1 := Lib.hid b1; have Hb2 := Lib.hid b2; have Hhown := Lib.hid hown; have Hhtk := Lib.hid htk; clear b0 b1 b2 hown htk
      go_wp2_with fail
      refine Go.Canon.wp_region_last 24 [1] (fun b => b = w.heap.size + 1 + 1) (.seg [0,1,2,3,4,5,6,7,8,9,10,11,12,13,14,15,16,17,18,19,20] (.alt 21 (.alt 22 (.seg [23] (.alt 24 .fin .no)) .no) .no)) mixed (by kernel_rfl) ?_
      refine Go.Canon.trm_seg ?_
      simp only [List.map_cons, List.map_nil, List.getD_cons_zero, List.getD_cons_succ]
      go_wp2_with fail
      refine Go.Canon.trm_to (Go.Canon.trm_one ?_)
      simp only [List.getD_cons_zero, List.getD_cons_succ]
      go_wp2_with fail
      refine Go.Canon.trm_end (fun b h9 => by subst h9; exact Below.heap_alloc wr _ _ Hb2.out.lt) (Go.Canon.trm_one ?_)
      simp only [List.getD_cons_zero, List.getD_cons_succ]
      refine append_block _ rfl _ _ 22 rfl (w.heap.size + 3) infoTri Try.underlying22 rfl (by decide) _ k _ rfl ((own_below Hhown.out (Below.refl _ wr).drew (Nat.le_refl _)).alloc _) wr.heap.size [.int .i64 x1, .int .i64 x3, .int .i64 x2] rfl (Bk.new wr.drew 55 _) rfl (by simp [Value.oneCell']) (by omega) (by decide) (by simp only [World.size_alloc, World.size_drew]; omega) ?_
      intro v' w5 hown5 hb5 hgrow _
      obtain ⟨g5, cap5, rfl⟩ := ownsRow_succ hown5
      have hl5 : ∀ g, g < w.heap.size + 3 → some g ≠ (Value.slice A3 k cap3).ownBlock := fun g hg e => by have := (Hhown.out.lt g e.symm).1; omega
      have hl6 : ∀ g, g < w.heap.size + 3 → (Value.slice (some ⟨g5, 0, none⟩) (k + 1) cap5).ownBlock ≠ some g := fun g hg e => by have := (hown5.lt g e).1; omega
      have b2_5 := (Hb2.out.drew.alloc (.cells #[.int .i64 x1, .int .i64 x3, .int .i64 x2] 55)).grown hgrow (hl5 _ (by omega))
      have b1_5 := (Hb1.out.drew.alloc (.cells #[.int .i64 x1, .int .i64 x3, .int .i64 x2] 55)).grown hgrow (hl5 _ (by omega))
      have b0_5 := (Hb0.out.drew.alloc (.cells #[.int .i64 x1, .int .i64 x3, .int .i64 x2] 55)).grown hgrow (hl5 _ (by omega))
      have hke : Go.Canon.KeepU (fun b => b = w.heap.size + 1 + 1) wr.drew w5 := fun b h9 => by subst h9; exact b2_5.trans Hb2.out.symm
      have e1 := b2_5.cell 1
      have f1 := b2_5.frozen 1
      have hz5 := hb5.size
      have b2_6 := b2_5.set 1 (.slice (some ⟨g5, 0, none⟩) (k + 1) cap5)
      have b1_6 := b1_5.far (p := ⟨w.heap.size + 1 + 1, 1, none⟩) (by simp only; omega) (.slice (some ⟨g5, 0, none⟩) (k + 1) cap5)
      have b0_6 := b0_5.far (p := ⟨w.heap.size + 1 + 1, 1, none⟩) (by simp only; omega) (.slice (some ⟨g5, 0, none⟩) (k + 1) cap5)
      have hown6 := hown5.kept (row := some (w.heap.size + 1 + 1)) (w' := w5.setCell ⟨w.heap.size + 1 + 1, 1, none⟩ (.slice (some ⟨g5, 0, none⟩) (k + 1) cap5)) ⟨rfl, rfl, rfl, (KeepsWalks.setCell w5 _ _).size, fun b _ hb => Below.heap_setCell _ _ _ b (fun e => hb (by rw [e]))⟩ (.inr (hl6 _ (by omega)))
      have hbel6 := ((hbel.drew.alloc (by simp only [World.size_drew]; omega) (.cells #[.int .i64 x1, .int .i64 x3, .int .i64 x2] 55)).trans (hb5.mono (by omega))).setCell (p := ⟨w.heap.size + 1 + 1, 1, none⟩) (by show w.heap.size ≤ w.heap.size + 1 + 1; omega) (.slice (some ⟨g5, 0, none⟩) (k + 1) cap5)
      simp only [World.size_alloc, World.size_drew] at hz5
      have Hhown5 := Lib.hid hown5; have Hb2_5 := Lib.hid b2_5; have Hb1_5 := Lib.hid b1_5; have Hb0_5 := Lib.hid b0_5; have Hb2_6 := Lib.hid b2_6; have Hb1_6 := Lib.hid b1_6; have Hb0_6 := Lib.hid b0_6; have Hhown6 := Lib.hid hown6; have Hhbel6 := Lib.hid hbel6; have Hhl5 := Lib.hid hl5; have Hhl6 := Lib.hid hl6; have Hhgrow := Lib.hid hgrow; clear hown5 b2_5 b1_5 b0_5 b2_6 b1_6 b0_6 hown6 hbel6 hl5 hl6 hgrow
      refine Go.Canon.trm_end hke (Go.Canon.trm_seg ?_)
      simp only [List.map_cons, List.map_nil, List.getD_cons_zero, List.getD_cons_succ]
      go_wp2_with fail
      refine Go.Canon.trm_to (Go.Canon.trm_one ?_)
      simp only [List.getD_cons_zero, List.getD_cons_succ]
      go_wp2_with fail
      refine Go.Canon.trm_last (Go.Canon.trm_fin (by rfl) (List.forall_mem_cons.2 ⟨.inl ⟨_, rfl, rfl, by rw [World.cell?_drew, c1]; rfl⟩, fun _ h => by cases h⟩) ?_)
      go_wp2_with fail
      refine ⟨⟨k + 1, _, by omega, by simp, Hb0_6.out, Hb1_6.out, Hb2_6.out, by rw [Hhtk.out]; exact Hhown6.out, Hhbel6.out, ?_⟩, by simp [intOf]; omega⟩
      have := Hhbel6.out.size
      have h8 := (KeepsWalks.setCell w5 ⟨w.heap.size + 1 + 1, 1, none⟩ (.slice (some ⟨g5, 0, none⟩) (k + 1) cap5)).size
      omega
    · obtain rfl : k = T.length := by omega
      rw [List.take_length] at hown
      have d0 : wr.cell? ⟨w.heap.size + 1, 0, none⟩ = some (.int .i64 0) := b1.cell 0
      have d1 : wr.cell? ⟨w.heap.size + 1, 1, none⟩ = some (.slice none 0 0) := b1.cell 1
      have h0 := b1.frozen 0
      have h1 := b1.frozen 1
      have hb9 := (b1.set 0 (.int .i64 N)).set 1 (.slice A3 T.length cap3)
      have hl9 : (Value.slice A3 T.length cap3).ownBlock = none ∨ (Value.slice A3 T.length cap3).ownBlock ≠ some (w.heap.size + 1) := .inr fun e => by have := (hown.lt _ e).1; omega
      have hset : ∀ (wz : World) (i : Nat) (u : Value), wz.grownBy (wz.setCell ⟨w.heap.size + 1, i, none⟩ u) (some (w.heap.size + 1)) := fun wz i u => ⟨rfl, rfl, rfl, (KeepsWalks.setCell wz _ u).size, fun b _ hb => Below.heap_setCell _ _ _ b (fun e => hb (by rw [e]))⟩
      have hown9 := (hown.kept (hset wr 0 (.int .i64 N)) hl9).kept (hset _ 1 (.slice A3 T.length cap3)) hl9
      have hbel9 := (hbel.setCell (p := ⟨w.heap.size + 1, 0, none⟩) (by show w.heap.size ≤ w.heap.size + 1; omega) (.int .i64 N)).setCell (p := ⟨w.heap.size + 1, 1, none⟩) (by show w.heap.size ≤ w.heap.size + 1; omega) (.slice A3 T.length cap3)
      have Hb0 := Lib.hid b0; have Hb1 := Lib.hid b1; have Hb2 := Lib.hid b2; have Hhown := Lib.hid hown; have Hhb9 := Lib.hid hb9; have Hhl9 := Lib.hid hl9; have Hhset := Lib.hid hset; have Hhown9 := Lib.hid hown9; have Hhbel9 := Lib.hid hbel9; clear b0 b1 b2 hown hb9 hl9 hset hown9 hbel9
      go_wp2_with fail
      exact ret_cell rfl rfl Hhb9.out Try.underlying24 rfl (by kernel_rfl) rfl ⟨⟨_, rfl, own_base Hhown9.out (by omega)⟩, Hhbel9.out⟩
set_option maxRecDepth 20000 in
set_option maxHeartbeats 1000000 in
theorem rename08_calls {w : World} {B : Nat} {sv lv : Value} {N : Int} {T : List T3} {l : List Int} (hT : Sl 3 RTri w B sv T) (hl : Sl 1 RInt w B lv l) (hB0 : B ≤ w.heap.size) (hs : Surf N T) (hN : (l.length : Int) = N) :
    Calls Try.prog 44 #[.agg #[.int .i64 N, sv], lv] w fun e w' => (∃ r, e = .returned (.agg #[.int .i64 N, r]) ∧ w'.ownsRow w.heap.size 55 3 r T.length (triVals (ren (pf l) T))) ∧ Below w.heap.size w w' := by
  have hfew := hs.tmax
  have hmax := hs.nmax
  obtain ⟨A, cap, rfl, hcap⟩ := hT.form
  obtain ⟨A9, cap9, rfl, hcap9⟩ := hl.form
  have hrng : ∀ k, k < T.length → (0 ≤ (triAt T k).1 ∧ (triAt T k).1 < N) ∧ (0 ≤ (triAt T k).2.1 ∧ (triAt T k).2.1 < N) ∧ 0 ≤ (triAt T k).2.2 ∧ (triAt T k).2.2 < N := fun k hk => by
    have h0 := hs.rng (3 * k) (by omega)
    have h1 := hs.rng (3 * k + 1) (by omega)
    have h2 := hs.rng (3 * k + 2) (by omega)
    rw [vt_tri, show 3 * k / 3 = k by omega, show 3 * k % 3 = 0 by omega] at h0
    rw [vt_tri, show (3 * k + 1) / 3 = k by omega, show (3 * k + 1) % 3 = 1 by omega] at h1
    rw [vt_tri, show (3 * k + 2) / 3 = k by omega, show (3 * k + 2) % 3 = 2 by omega] at h2
    exact ⟨h0, h1, h2⟩
  have HhT := Lib.hid hT; have Hhl := Lib.hid hl; have Hhs := Lib.hid hs; have Hhrng := Lib.hid hrng; clear hT hl hs hrng
  go_enter Try.func44, Try.ntmps44
  go_wp2_with fail
  obtain ⟨w0, hw0⟩ : ∃ w0, w0 = (((w.alloc (.cells #[.int .i64 N, .slice A T.length cap] 24)).alloc (.cells #[.int .i64 0, .slice none 0 0] 24)).alloc (.cells #[.int .i64 N, .slice none 0 0] 24)) := ⟨_, rfl⟩
  have hB1 : Below w.heap.size w w0 := by
    rw [hw0]; exact (((Below.refl _ w).alloc (Nat.le_refl _) _).alloc (by simp) _).alloc (by simp; omega) _
  have hk0 : Bk w0 w.heap.size 24 [.int .i64 N, .slice A T.length cap] := by rw [hw0]; exact ((Bk.new w _ _).alloc _).alloc _
  have hk1 : Bk w0 (w.heap.size + 1) 24 [.int .i64 0, .slice none 0 0] := by rw [hw0]; exact (Bk.new' _ _ (by simp)).alloc _
  have hk2 : Bk w0 (w.heap.size + 1 + 1) 24 [.int .i64 N, .slice none 0 0] := by rw [hw0]; exact Bk.new' _ _ (by simp)
  have hz0 : w.heap.size + 3 ≤ w0.heap.size := by rw [hw0]; simp
  rw [← hw0]
  clear hw0
  go_loopw [6] (fun i wr => ∃ (k : Nat) (r : Value), k ≤ T.length ∧ i = .int .i64 k ∧ Bk wr w.heap.size 24 [.int .i64 N, .slice A T.length cap] ∧ Bk wr (w.heap.size + 1) 24 [.int .i64 0, .slice none 0 0] ∧ Bk wr (w.heap.size + 1 + 1) 24 [.int .i64 N, r] ∧ wr.ownsRow (w.heap.size + 3) 55 3 r k (triVals (ren (pf l) (T.take k))) ∧ Below w.heap.size w wr ∧ w.heap.size + 3 ≤ wr.heap.size) (fun i _ => T.length - (intOf i).toNat)
  case atStart => exact ⟨0, _, by omega, rfl, hk0, hk1, hk2, World.ownsRow_nil _ _ _ _, hB1, hz0⟩
  case round =>
    obtain ⟨k, r, hk, rfl, b0, b1, b2, hown, hbel, hz⟩ := hrel
    obtain ⟨A3, cap3, rfl, hc3⟩ := own_form hown
    have c0 : wr.cell? ⟨w.heap.size + 1 + 1, 0, none⟩ = some (.int .i64 N) := b2.cell 0
    have c1 : wr.cell? ⟨w.heap.size + 1 + 1, 1, none⟩ = some (.slice A3 k cap3) := b2.cell 1
    have a0 : wr.cell? ⟨w.heap.size, 0, none⟩ = some (.int .i64 N) := b0.cell 0
    have a1 : wr.cell? ⟨w.heap.size, 1, none⟩ = some (.slice A T.length cap) := b0.cell 1
    by_cases hkl : k < T.length
    · obtain ⟨b, o, rfl, hb, t1, t2, t3⟩ := (HhT.out.below keeps_tri (hbel.mono hB0)).tri_at hkl
      have htk : triVals (ren (pf l) (T.take (k + 1))) = triVals (ren (pf l) (T.take k)) ++ [.int .i64 (pf l T[k].1), .int .i64 (pf l T[k].2.1), .int .i64 (pf l T[k].2.2)] := by
        rw [List.take_succ_eq_append_getElem hkl]
        unfold ren
        rw [List.map_append, List.map_cons, List.map_nil, triVals_snoc]
      have hr9 := Hhrng.out k hkl
      rw [← triAt_get hkl] at hr9
      generalize T[k] = x at *
      obtain ⟨x1, x2, x3⟩ := x
      simp only [] at t1 t2 t3 htk hr9
      obtain ⟨⟨p1, q1⟩, ⟨p2, q2⟩, p3, q3⟩ := hr9
      have hsl := Hhl.out.below keeps_int (hbel.mono hB0)
      obtain ⟨b9, o9, rfl, hb9, u1⟩ := hsl.int_at (k := x1.toNat) (by omega)
      obtain ⟨_, _, e9, _, u2⟩ := hsl.int_at (k := x2.toNat) (by omega)
      obtain ⟨_, _, e8, _, u3⟩ := hsl.int_at (k := x3.toNat) (by omega)
      injection e9 with e9; injection e9 with e9 e7 _; subst e9; subst e7
      injection e8 with e8; injection e8 with e8 e7 _; subst e8; subst e7
      have hpf : ∀ x : Int, (h : x.toNat < l.length) → l[x.toNat] = pf l x := fun x h => by unfold pf; rw [List.getD_eq_getElem?_getD, List.getElem?_eq_getElem h]; rfl
      rw [hpf] at u1 u2 u3
      obtain ⟨n1, rfl⟩ : ∃ n : Nat, x1 = (n : Int) := ⟨x1.toNat, by omega⟩
      obtain ⟨n2, rfl⟩ : ∃ n : Nat, x2 = (n : Int) := ⟨x2.toNat, by omega⟩
      obtain ⟨n3, rfl⟩ : ∃ n : Nat, x3 = (n : Int) := ⟨x3.toNat, by omega⟩
      rw [Int.toNat_natCast] at u1 u2 u3
      have z1 : (n1 : Int) < (l.length : Int) := by omega
      have z2 : (n2 : Int) < (l.length : Int) := by omega
      have z3 : (n3 : Int) < (l.length : Int) := by omega
      generalize pf l (n1 : Int) = y1 at *
      generalize pf l (n2 : Int) = y2 at *
      generalize pf l (n3 : Int) = y3 at *
      have hbw : b < wr.heap.size := by omega
      clear hpf
      have Hb0 := Lib.hid b0; have Hb1 := Lib.hid b1; have Hb2 := Lib.hid b2; have Hhown := Lib.hid hown; have Hhtk := Lib.hid htk; have Hhsl := Lib.hid hsl; clear b0 b1 b2 hown htk hsl
      go_wp2_with fail
      refine Go.Canon.wp_region_last 33 [1] (fun b => b = w.heap.size + 1 + 1) (.seg [0,1,2,3,4,5,6,7,8,9,10,11,12,13,14,15,16,17,18,19,20,21,22,23,24,25,26,27,28,29] (.alt 30 (.alt 31 (.seg [32] (.alt 33 .fin .no)) .no) .no)) mixed (by kernel_rfl) ?_
      refine Go.Canon.trm_seg ?_
      simp only [List.map_cons, List.map_nil, List.getD_cons_zero, List.getD_cons_succ]
      go_wp2_with fail
      refine Go.Canon.trm_to (Go.Canon.trm_one ?_)
      simp only [List.getD_cons_zero, List.getD_cons_succ]
      go_wp2_with fail
      refine Go.Canon.trm_end (fun b h9 => by subst h9; exact Below.heap_alloc wr _ _ Hb2.out.lt) (Go.Canon.trm_one ?_)
      simp only [List.getD_cons_zero, List.getD_cons_succ]
      refine append_block _ rfl _ _ 22 rfl (w.heap.size + 3) infoTri Try.underlying22 rfl (by decide) _ k _ rfl ((own_below Hhown.out (Below.refl _ wr).drew (Nat.le_refl _)).alloc _) wr.heap.size [.int .i64 y1, .int .i64 y2, .int .i64 y3] rfl (Bk.new wr.drew 55 _) rfl (by simp [Value.oneCell']) (by omega) (by decide) (by simp only [World.size_alloc, World.size_drew]; omega) ?_
      intro v' w5 hown5 hb5 hgrow _
      obtain ⟨g5, cap5, rfl⟩ := ownsRow_succ hown5
      have hl5 : ∀ g, g < w.heap.size + 3 → some g ≠ (Value.slice A3 k cap3).ownBlock := fun g hg e => by have := (Hhown.out.lt g e.symm).1; omega
      have hl6 : ∀ g, g < w.heap.size + 3 → (Value.slice (some ⟨g5, 0, none⟩) (k + 1) cap5).ownBlock ≠ some g := fun g hg e => by have := (hown5.lt g e).1; omega
      have b2_5 := (Hb2.out.drew.alloc (.cells #[.int .i64 y1, .int .i64 y2, .int .i64 y3] 55)).grown hgrow (hl5 _ (by omega))
      have b1_5 := (Hb1.out.drew.alloc (.cells #[.int .i64 y1, .int .i64 y2, .int .i64 y3] 55)).grown hgrow (hl5 _ (by omega))
      have b0_5 := (Hb0.out.drew.alloc (.cells #[.int .i64 y1, .int .i64 y2, .int .i64 y3] 55)).grown hgrow (hl5 _ (by omega))
      have hke : Go.Canon.KeepU (fun b => b = w.heap.size + 1 + 1) wr.drew w5 := fun b h9 => by subst h9; exact b2_5.trans Hb2.out.symm
      have e1 := b2_5.cell 1
      have f1 := b2_5.frozen 1
      have hz5 := hb5.size
      have b2_6 := b2_5.set 1 (.slice (some ⟨g5, 0, none⟩) (k + 1) cap5)
      have b1_6 := b1_5.far (p := ⟨w.heap.size + 1 + 1, 1, none⟩) (by simp only; omega) (.slice (some ⟨g5, 0, none⟩) (k + 1) cap5)
      have b0_6 := b0_5.far (p := ⟨w.heap.size + 1 + 1, 1, none⟩) (by simp only; omega) (.slice (some ⟨g5, 0, none⟩) (k + 1) cap5)
      have hown6 := hown5.kept (row := some (w.heap.size + 1 + 1)) (w' := w5.setCell ⟨w.heap.size + 1 + 1, 1, none⟩ (.slice (some ⟨g5, 0, none⟩) (k + 1) cap5)) ⟨rfl, rfl, rfl, (KeepsWalks.setCell w5 _ _).size, fun b _ hb => Below.heap_setCell _ _ _ b (fun e => hb (by rw [e]))⟩ (.inr (hl6 _ (by omega)))
      have hbel6 := ((hbel.drew.alloc (by simp only [World.size_drew]; omega) (.cells #[.int .i64 y1, .int .i64 y2, .int .i64 y3] 55)).trans (hb5.mono (by omega))).setCell (p := ⟨w.heap.size + 1 + 1, 1, none⟩) (by show w.heap.size ≤ w.heap.size + 1 + 1; omega) (.slice (some ⟨g5, 0, none⟩) (k + 1) cap5)
      simp only [World.size_alloc, World.size_drew] at hz5
      have Hhown5 := Lib.hid hown5; have Hb2_5 := Lib.hid b2_5; have Hb1_5 := Lib.hid b1_5; have Hb0_5 := Lib.hid b0_5; have Hb2_6 := Lib.hid b2_6; have Hb1_6 := Lib.hid b1_6; have Hb0_6 := Lib.hid b0_6; have Hhown6 := Lib.hid hown6; have Hhbel6 := Lib.hid hbel6; have Hhl5 := Lib.hid hl5; have Hhl6 := Lib.hid hl6; have Hhgrow := Lib.hid hgrow; clear hown5 b2_5 b1_5 b0_5 b2_6 b1_6 b0_6 hown6 hbel6 hl5 hl6 hgrow
      refine Go.Canon.trm_end hke (Go.Canon.trm_seg ?_)
      simp only [List.map_cons, List.map_nil, List.getD_cons_zero, List.getD_cons_succ]
      go_wp2_with fail
      refine Go.Canon.trm_to (Go.Canon.trm_one ?_)
      simp only [List.getD_cons_zero, List.getD_cons_succ]
      go_wp2_with fail
      refine Go.Canon.trm_last (Go.Canon.trm_fin (by rfl) (List.forall_mem_cons.2 ⟨.inl ⟨_, rfl, rfl, by rw [World.cell?_drew, c1]; rfl⟩, fun _ h => by cases h⟩) ?_)
      go_wp2_with fail
      refine ⟨⟨k + 1, _, by omega, by simp, Hb0_6.out, Hb1_6.out, Hb2_6.out, by rw [Hhtk.out]; exact Hhown6.out, Hhbel6.out, ?_⟩, by simp [intOf]; omega⟩
      have := Hhbel6.out.size
      have h8 := (KeepsWalks.setCell w5 ⟨w.heap.size + 1 + 1, 1, none⟩ (.slice (some ⟨g5, 0, none⟩) (k + 1) cap5)).size
      omega
    · obtain rfl : k = T.length := by omega
      rw [List.take_length] at hown
      have d0 : wr.cell? ⟨w.heap.size + 1, 0, none⟩ = some (.int .i64 0) := b1.cell 0
      have d1 : wr.cell? ⟨w.heap.size + 1, 1, none⟩ = some (.slice none 0 0) := b1.cell 1
      have h0 := b1.frozen 0
      have h1 := b1.frozen 1
      have hb9 := (b1.set 0 (.int .i64 N)).set 1 (.slice A3 T.length cap3)
      have hl9 : (Value.slice A3 T.length cap3).ownBlock = none ∨ (Value.slice A3 T.length cap3).ownBlock ≠ some (w.heap.size + 1) := .inr fun e => by have := (hown.lt _ e).1; omega
      have hset : ∀ (wz : World) (i : Nat) (u : Value), wz.grownBy (wz.setCell ⟨w.heap.size + 1, i, none⟩ u) (some (w.heap.size + 1)) := fun wz i u => ⟨rfl, rfl, rfl, (KeepsWalks.setCell wz _ u).size, fun b _ hb => Below.heap_setCell _ _ _ b (fun e => hb (by rw [e]))⟩
      have hown9 := (hown.kept (hset wr 0 (.int .i64 N)) hl9).kept (hset _ 1 (.slice A3 T.length cap3)) hl9
      have hbel9 := (hbel.setCell (p := ⟨w.heap.size + 1, 0, none⟩) (by show w.heap.size ≤ w.heap.size + 1; omega) (.int .i64 N)).setCell (p := ⟨w.heap.size + 1, 1, none⟩) (by show w.heap.size ≤ w.heap.size + 1; omega) (.slice A3 T.length cap3)
      have Hb0 := Lib.hid b0; have Hb1 := Lib.hid b1; have Hb2 := Lib.hid b2; have Hhown := Lib.hid hown; have Hhb9 := Lib.hid hb9; have Hhl9 := Lib.hid hl9; have Hhset := Lib.hid hset; have Hhown9 := Lib.hid hown9; have Hhbel9 := Lib.hid hbel9; clear b0 b1 b2 hown hb9 hl9 hset hown9 hbel9
      go_wp2_with fail
      exact ret_cell rfl rfl Hhb9.out Try.underlying24 rfl (by kernel_rfl) rfl ⟨⟨_, rfl, own_base Hhown9.out (by omega)⟩, Hhbel9.out⟩
set_option maxRecDepth 20000 in
theorem turned08_calls (x1 x2 x3 : Int) (k : Nat) (hk : k < 3) (w : World) : Calls Try.prog 45 #[.agg #[.int .i64 x1, .int .i64 x2, .int .i64 x3], .int .i64 (k : Int)] w fun e w' => e = .returned (.agg #[.int .i64 (rot (x1, x2, x3) k).1, .int .i64 (rot (x1, x2, x3) k).2.1, .int .i64 (rot (x1, x2, x3) k).2.2]) ∧ Below w.heap.size w w' := by
  have h3 : k = 0 ∨ k = 1 ∨ k = 2 := by omega
  rcases h3 with rfl | rfl | rfl
  all_goals
    go_enter Try.func45, Try.ntmps45
    go_wp2_with fail
    refine Go.Canon.wp_region_text mixed (by kernel_rfl) ?_
    go_wp2_with fail
    refine Go.Canon.chk (by rfl) ?_
    go_wp2_with fail
    first
      | exact ret_cell rfl rfl (Bk.new' (n := w.heap.size + 1) (w := w.alloc (.cells #[.int .i64 x1, .int .i64 x2, .int .i64 x3] 55)) 55 [.int .i64 x1, .int .i64 x2, .int .i64 x3] (by simp)).drew Try.underlying55 rfl (by kernel_rfl) rfl ⟨rfl, (((Below.refl w.heap.size w).alloc (Nat.le_refl _) (.cells #[.int .i64 x1, .int .i64 x2, .int .i64 x3] 55)).alloc (by simp) (.cells #[.int .i64 x1, .int .i64 x2, .int .i64 x3] 55)).drew⟩
      | exact ret_cell rfl rfl (Bk.new' (n := w.heap.size + 1) (w := w.alloc (.cells #[.int .i64 x1, .int .i64 x2, .int .i64 x3] 55)) 55 [.int .i64 x2, .int .i64 x3, .int .i64 x1] (by simp)).drew Try.underlying55 rfl (by kernel_rfl) rfl ⟨rfl, (((Below.refl w.heap.size w).alloc (Nat.le_refl _) (.cells #[.int .i64 x1, .int .i64 x2, .int .i64 x3] 55)).alloc (by simp) (.cells #[.int .i64 x2, .int .i64 x3, .int .i64 x1] 55)).drew⟩
      | exact ret_cell rfl rfl (Bk.new' (n := w.heap.size + 1) (w := w.alloc (.cells #[.int .i64 x1, .int .i64 x2, .int .i64 x3] 55)) 55 [.int .i64 x3, .int .i64 x1, .int .i64 x2] (by simp)).drew Try.underlying55 rfl (by kernel_rfl) rfl ⟨rfl, (((Below.refl w.heap.size w).alloc (Nat.le_refl _) (.cells #[.int .i64 x1, .int .i64 x2, .int .i64 x3] 55)).alloc (by simp) (.cells #[.int .i64 x3, .int .i64 x1, .int .i64 x2] 55)).drew⟩
end Go.Proofs.Ytckkpmjkajkkmaa
