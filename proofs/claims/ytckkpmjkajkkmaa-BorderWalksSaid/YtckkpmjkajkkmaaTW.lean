/- Walks: soup.Mirror. -/
import Derived.Test.YtckkpmjkajkkmaaTV
import Derived.Test.YtckkpmjkajkkmaaVC
namespace Go.Proofs.Ytckkpmjkajkkmaa
open Go Go.RowKit Go.Words Go.Mesh

theorem infoTri : (Try.prog.info? 55).map (fun i => (i.zero, i.size, i.bytes)) = some (some (.agg #[.int .i64 0, .int .i64 0, .int .i64 0]), 3, 24) := by kernel_rfl
theorem triVals_len : ∀ T : List T3, (triVals T).length = T.length * 3
  | [] => rfl
  | _ :: T => by simp only [triVals, List.length_cons, triVals_len T]; omega
theorem triVals_snoc : ∀ (T : List T3) (t : T3), triVals (T ++ [t]) = triVals T ++ [.int .i64 t.1, .int .i64 t.2.1, .int .i64 t.2.2]
  | [], _ => rfl
  | x :: T, t => by simp only [List.cons_append, triVals, triVals_snoc T t]
theorem sl_own_tris {w : World} {base : Nat} {v : Value} {T : List T3} (h : w.ownsRow base 55 3 v T.length (triVals T)) : Sl 3 RTri w w.heap.size v T :=
  Sl.of_own h fun i a hi => (triVals_at T i a hi).2
set_option maxRecDepth 20000 in
theorem mir1_calls (x y z : Int) (w : World) : Calls Try.prog 79 #[.agg #[.int .i64 x, .int .i64 y, .int .i64 z]] w fun e w' => e = .returned (.agg #[.int .i64 x, .int .i64 z, .int .i64 y]) ∧ Below w.heap.size w w' := by
  go_enter Try.func79, Try.ntmps79
  go_wp2
  have hb := ((Below.refl w.heap.size w).alloc (Nat.le_refl _) (.cells #[.int .i64 x, .int .i64 y, .int .i64 z] 55)).alloc (by simp) (.cells #[.int .i64 x, .int .i64 z, .int .i64 y] 55)
  exact ret_cell rfl rfl (Bk.new' (n := w.heap.size + 1) (w := w.alloc (.cells #[.int .i64 x, .int .i64 y, .int .i64 z] 55)) 55 [.int .i64 x, .int .i64 z, .int .i64 y] (by simp)) Try.underlying55 rfl (by kernel_rfl) rfl ⟨rfl, hb⟩
set_option maxRecDepth 20000 in
set_option maxHeartbeats 1000000 in
theorem eachMir_calls {w : World} {B : Nat} {sv : Value} {N : Int} {T : List T3} (hT : Sl 3 RTri w B sv T) (hB0 : B ≤ w.heap.size) (hfew : T.length ≤ 8192) :
    Calls Try.prog 78 #[.agg #[.int .i64 N, sv], .func (.func 79) #[] #[]] w fun e w' => (∃ r, e = .returned (.agg #[.int .i64 N, r]) ∧ w'.ownsRow w.heap.size 55 3 r T.length (triVals (mir T))) ∧ Below w.heap.size w w' := by
  obtain ⟨A, cap, rfl, hcap⟩ := hT.form
  have HhT := Lib.hid hT; clear hT
  go_enter Try.func78, Try.ntmps78
  go_wp2_with fail
  obtain ⟨w0, hw0⟩ : ∃ w0, w0 = (((w.alloc (.cells #[.int .i64 N, .slice A T.length cap] 24)).alloc (.cells #[.int .i64 0, .slice none 0 0] 24)).alloc (.cells #[.int .i64 N, .slice none 0 0] 24)) := ⟨_, rfl⟩
  have hB1 : Below w.heap.size w w0 := by
    rw [hw0]; exact (((Below.refl _ w).alloc (Nat.le_refl _) _).alloc (by simp) _).alloc (by simp; omega) _
  have hk1 : Bk w0 (w.heap.size + 1) 24 [.int .i64 0, .slice none 0 0] := by rw [hw0]; exact (Bk.new' _ _ (by simp)).alloc _
  have hk2 : Bk w0 (w.heap.size + 1 + 1) 24 [.int .i64 N, .slice none 0 0] := by rw [hw0]; exact Bk.new' _ _ (by simp)
  have hz0 : w.heap.size + 3 ≤ w0.heap.size := by rw [hw0]; simp
  rw [← hw0]
  clear hw0
  go_loopw [14] (fun i wr => ∃ (k : Nat) (r : Value), k ≤ T.length ∧ i = .int .i64 k ∧ Bk wr (w.heap.size + 1) 24 [.int .i64 0, .slice none 0 0] ∧ Bk wr (w.heap.size + 1 + 1) 24 [.int .i64 N, r] ∧ wr.ownsRow (w.heap.size + 3) 55 3 r k (triVals (mir (T.take k))) ∧ Below w.heap.size w wr ∧ w.heap.size + 3 ≤ wr.heap.size) (fun i _ => T.length - (intOf i).toNat)
  case atStart => exact ⟨0, _, by omega, rfl, hk1, hk2, World.ownsRow_nil _ _ _ _, hB1, hz0⟩
  case round =>
    obtain ⟨k, r, hk, rfl, b1, b2, hown, hbel, hz⟩ := hrel
    obtain ⟨A3, cap3, rfl, hc3⟩ := own_form hown
    have c0 : wr.cell? ⟨w.heap.size + 1 + 1, 0, none⟩ = some (.int .i64 N) := b2.cell 0
    have c1 : wr.cell? ⟨w.heap.size + 1 + 1, 1, none⟩ = some (.slice A3 k cap3) := b2.cell 1
    by_cases hkl : k < T.length
    · obtain ⟨b, o, rfl, hb, t1, t2, t3⟩ := (HhT.out.below keeps_tri (hbel.mono hB0)).tri_at hkl
      have htk : triVals (mir (T.take (k + 1))) = triVals (mir (T.take k)) ++ [.int .i64 T[k].1, .int .i64 T[k].2.2, .int .i64 T[k].2.1] := by
        rw [List.take_succ_eq_append_getElem hkl]
        unfold mir
        rw [List.map_append, List.map_cons, List.map_nil, triVals_snoc]
        rfl
      generalize T[k] = x at *
      obtain ⟨x1, x2, x3⟩ := x
      simp only [] at t1 t2 t3 htk
      have hbw : b < wr.heap.size := by omega
      have hm1 := fun wz => mir1_calls x1 x2 x3 wz
      have b2A := b2.alloc (.cells #[.int .i64 x1, .int .i64 x2, .int .i64 x3] 55)
      have b1A := b1.alloc (.cells #[.int .i64 x1, .int .i64 x2, .int .i64 x3] 55)
      have hnA := Bk.new wr 55 [.int .i64 x1, .int .i64 x2, .int .i64 x3]
      have hoA := hown.alloc (.cells #[.int .i64 x1, .int .i64 x2, .int .i64 x3] 55)
      have hbA := hbel.alloc (by omega) (.cells #[.int .i64 x1, .int .i64 x2, .int .i64 x3] 55)
      have hzA : w.heap.size + 3 < (wr.alloc (.cells #[.int .i64 x1, .int .i64 x2, .int .i64 x3] 55)).heap.size := by simp; omega
      have hbb2 := b2.lt
      have Hb1 := Lib.hid b1; have Hb2 := Lib.hid b2; have Hhown := Lib.hid hown; have Hhm1 := Lib.hid hm1; have Hhtk := Lib.hid htk; have Hb2A := Lib.hid b2A; have Hb1A := Lib.hid b1A; have HhnA := Lib.hid hnA; have HhoA := Lib.hid hoA; clear b1 b2 hown hm1 htk b2A b1A hnA hoA
      go_wp2_with fail
      generalize hwa : wr.alloc (.cells #[.int .i64 x1, .int .i64 x2, .int .i64 x3] 55) = wa at *
      have d1 : wa.cell? ⟨w.heap.size + 1 + 1, 1, none⟩ = some (.slice A3 k cap3) := Hb2A.out.cell 1
      have d2 : wa.cell? ⟨wr.heap.size, 0, none⟩ = some (.int .i64 x1) := HhnA.out.cell 0
      have d3 : wa.cell? ⟨wr.heap.size, 1, none⟩ = some (.int .i64 x2) := HhnA.out.cell 1
      have d4 : wa.cell? ⟨wr.heap.size, 2, none⟩ = some (.int .i64 x3) := HhnA.out.cell 2
      clear hwa
      refine Go.Canon.wp_region_last 8 [1] (fun b => b = w.heap.size + 1 + 1) (.seg [0,1,2,3] (.alt 4 (.alt 5 (.alt 6 (.seg [7] (.alt 8 .fin .no)) .no) .no) .no)) mixed (by kernel_rfl) ?_
      refine Go.Canon.trm_seg ?_
      simp only [List.map_cons, List.map_nil, List.getD_cons_zero, List.getD_cons_succ]
      go_wp2_with fail
      refine Go.Canon.trm_to (Go.Canon.trm_one ?_)
      simp only [List.getD_cons_zero, List.getD_cons_succ]
      go_wp2_with fail
      refine (Hhm1.out _).mono ?_
      rintro e w4 ⟨rfl, hb4⟩
      have hb4' : Below wa.heap.size wa w4 := (Below.refl _ wa).drew.trans hb4
      have hz4 := hb4'.size
      go_wp2_with fail
      refine Go.Canon.trm_end (fun b h9 => by subst h9; exact hb4'.block _ (by omega)) (Go.Canon.trm_one ?_)
      simp only [List.getD_cons_zero, List.getD_cons_succ]
      go_wp2_with fail
      have b2_4 := Hb2A.out.below hb4' (by omega)
      have b1_4 := Hb1A.out.below hb4' (by omega)
      refine Go.Canon.trm_end (fun b h9 => by subst h9; exact (Below.heap_alloc w4 _ _ b2_4.lt).trans (hb4'.block _ (by omega))) (Go.Canon.trm_one ?_)
      simp only [List.getD_cons_zero, List.getD_cons_succ]
      have hown4 := own_below HhoA.out hb4' (Nat.le_refl _)
      have hbel4 := hbA.trans (hb4'.mono hbA.size)
      refine append_block _ rfl _ _ 22 rfl (w.heap.size + 3) infoTri Try.underlying22 rfl (by decide) _ k _ rfl (hown4.alloc _) w4.heap.size [.int .i64 x1, .int .i64 x3, .int .i64 x2] rfl (Bk.new w4 55 _) rfl (by simp [Value.oneCell']) (by omega) (by decide) (by simp only [World.size_alloc]; omega) ?_
      intro v' w5 hown5 hb5 hgrow _
      obtain ⟨g5, cap5, rfl⟩ := ownsRow_succ hown5
      have hl5 : ∀ g, g < w.heap.size + 3 → some g ≠ (Value.slice A3 k cap3).ownBlock := fun g hg e => by have := (hown4.lt g e.symm).1; omega
      have hl6 : ∀ g, g < w.heap.size + 3 → (Value.slice (some ⟨g5, 0, none⟩) (k + 1) cap5).ownBlock ≠ some g := fun g hg e => by have := (hown5.lt g e).1; omega
      have b2_5 := (b2_4.alloc (.cells #[.int .i64 x1, .int .i64 x3, .int .i64 x2] 55)).grown hgrow (hl5 _ (by omega))
      have b1_5 := (b1_4.alloc (.cells #[.int .i64 x1, .int .i64 x3, .int .i64 x2] 55)).grown hgrow (hl5 _ (by omega))
      have hke : Go.Canon.KeepU (fun b => b = w.heap.size + 1 + 1) wa.drew w5 := fun b h9 => by subst h9; exact b2_5.trans Hb2A.out.symm
      have e1 := b2_5.cell 1
      have f1 := b2_5.frozen 1
      have hz5 := hb5.size
      have b2_6 := b2_5.set 1 (.slice (some ⟨g5, 0, none⟩) (k + 1) cap5)
      have b1_6 := b1_5.far (p := ⟨w.heap.size + 1 + 1, 1, none⟩) (by simp only; omega) (.slice (some ⟨g5, 0, none⟩) (k + 1) cap5)
      have hown6 := hown5.kept (row := some (w.heap.size + 1 + 1)) (w' := w5.setCell ⟨w.heap.size + 1 + 1, 1, none⟩ (.slice (some ⟨g5, 0, none⟩) (k + 1) cap5)) ⟨rfl, rfl, rfl, (KeepsWalks.setCell w5 _ _).size, fun b _ hb => Below.heap_setCell _ _ _ b (fun e => hb (by rw [e]))⟩ (.inr (hl6 _ (by omega)))
      have hbel6 := ((hbel4.alloc (by omega) (.cells #[.int .i64 x1, .int .i64 x3, .int .i64 x2] 55)).trans (hb5.mono (by omega))).setCell (p := ⟨w.heap.size + 1 + 1, 1, none⟩) (by show w.heap.size ≤ w.heap.size + 1 + 1; omega) (.slice (some ⟨g5, 0, none⟩) (k + 1) cap5)
      simp only [World.size_alloc] at hz5
      have Hb2_4 := Lib.hid b2_4; have Hb1_4 := Lib.hid b1_4; have Hhown4 := Lib.hid hown4; have Hhown5 := Lib.hid hown5; have Hb2_5 := Lib.hid b2_5; have Hb1_5 := Lib.hid b1_5; have Hb2_6 := Lib.hid b2_6; have Hb1_6 := Lib.hid b1_6; have Hhown6 := Lib.hid hown6; have Hhbel6 := Lib.hid hbel6; have Hhl5 := Lib.hid hl5; have Hhl6 := Lib.hid hl6; have Hhgrow := Lib.hid hgrow; clear b2_4 b1_4 hown4 hown5 b2_5 b1_5 b2_6 b1_6 hown6 hbel6 hl5 hl6 hgrow
      refine Go.Canon.trm_end hke (Go.Canon.trm_seg ?_)
      simp only [List.map_cons, List.map_nil, List.getD_cons_zero, List.getD_cons_succ]
      go_wp2_with fail
      refine Go.Canon.trm_to (Go.Canon.trm_one ?_)
      simp only [List.getD_cons_zero, List.getD_cons_succ]
      go_wp2_with fail
      refine Go.Canon.trm_last (Go.Canon.trm_fin (by rfl) (List.forall_mem_cons.2 ⟨.inl ⟨_, rfl, rfl, by rw [World.cell?_drew, d1]; rfl⟩, fun _ h => by cases h⟩) ?_)
      go_wp2_with fail
      refine ⟨⟨k + 1, _, by omega, by simp, Hb1_6.out, Hb2_6.out, by rw [Hhtk.out]; exact Hhown6.out, Hhbel6.out, ?_⟩, by simp [intOf]; omega⟩
      have := Hhbel6.out.size
      have h8 := (KeepsWalks.setCell w5 ⟨w.heap.size + 1 + 1, 1, none⟩ (.slice (some ⟨g5, 0, none⟩) (k + 1) cap5)).size
      omega
    · obtain rfl : k = T.length := by omega
      rw [List.take_length] at hown
      have d0 : wr.cell? ⟨w.heap.size + 1, 0, none⟩ = some (.int .i64 0) := b1.cell 0
      have d1 : wr.cell? ⟨w.heap.size + 1, 1, none⟩ = some (.slice none 0 0) := b1.cell 1
      have h0 := b1.frozen 0
      have h1 := b1.frozen 1
      have hb9 := (b1.set 0 (.int .i64 N)).set 1 (.slice A3 T.length cap3)
      have hl9 : (Value.slice A3 T.length cap3).ownBlock = none ∨ (Value.slice A3 T.length cap3).ownBlock ≠ some (w.heap.size + 1) := .inr fun e => by have := (hown.lt _ e).1; omega
      have hset : ∀ (wz : World) (i : Nat) (u : Value), wz.grownBy (wz.setCell ⟨w.heap.size + 1, i, none⟩ u) (some (w.heap.size + 1)) := fun wz i u => ⟨rfl, rfl, rfl, (KeepsWalks.setCell wz _ u).size, fun b _ hb => Below.heap_setCell _ _ _ b (fun e => hb (by rw [e]))⟩
      have hown9 := (hown.kept (hset wr 0 (.int .i64 N)) hl9).kept (hset _ 1 (.slice A3 T.length cap3)) hl9
      have hbel9 := (hbel.setCell (p := ⟨w.heap.size + 1, 0, none⟩) (by show w.heap.size ≤ w.heap.size + 1; omega) (.int .i64 N)).setCell (p := ⟨w.heap.size + 1, 1, none⟩) (by show w.heap.size ≤ w.heap.size + 1; omega) (.slice A3 T.length cap3)
      have Hb1 := Lib.hid b1; have Hb2 := Lib.hid b2; have Hhown := Lib.hid hown; have Hhb9 := Lib.hid hb9; have Hhl9 := Lib.hid hl9; have Hhset := Lib.hid hset; have Hhown9 := Lib.hid hown9; have Hhbel9 := Lib.hid hbel9; clear b1 b2 hown hb9 hl9 hset hown9 hbel9
      go_wp2_with fail
      exact ret_cell rfl rfl Hhb9.out Try.underlying24 rfl (by kernel_rfl) rfl ⟨⟨_, rfl, own_base Hhown9.out (by omega)⟩, Hhbel9.out⟩
set_option maxRecDepth 20000 in
theorem mirror_calls {w : World} {B : Nat} {sv : Value} {N : Int} {T : List T3} (hT : Sl 3 RTri w B sv T) (hB0 : B ≤ w.heap.size) (hfew : T.length ≤ 8192) :
    Calls Try.prog 49 #[.agg #[.int .i64 N, sv]] w fun e w' => (∃ r, e = .returned (.agg #[.int .i64 N, r]) ∧ w'.ownsRow w.heap.size 55 3 r T.length (triVals (mir T))) ∧ Below w.heap.size w w' := by
  obtain ⟨A, cap, rfl, hcap⟩ := hT.form
  have hb1 := ((Below.refl w.heap.size w).alloc (Nat.le_refl _) (.cells #[.int .i64 N, .slice A T.length cap] 24)).alloc (by simp) (.cells #[.int .i64 0, .slice none 0 0] 24)
  have hbk : Bk ((w.alloc (.cells #[.int .i64 N, .slice A T.length cap] 24)).alloc (.cells #[.int .i64 0, .slice none 0 0] 24)) (w.heap.size + 1) 24 [.int .i64 0, .slice none 0 0] := Bk.new' _ _ (by simp)
  have hea := eachMir_calls (N := N) (hT.below keeps_tri (hb1.mono hB0)) (by simp; omega) hfew
  have HhT := Lib.hid hT; have Hhbk := Lib.hid hbk; have Hhea := Lib.hid hea; clear hT hbk hea
  go_enter Try.func49, Try.ntmps49
  go_wp2_with fail
  refine Hhea.out.mono ?_
  rintro e w1 ⟨⟨r, rfl, hown⟩, hb2⟩
  have hb3 := below_call hb1 hb2 hb1.size
  obtain ⟨A3, cap3, rfl, hc3⟩ := own_form hown
  have b1 := Hhbk.out.below hb2 Hhbk.out.lt
  have d0 := b1.cell 0
  have d1 := b1.cell 1
  simp only [List.getElem?_cons_zero, List.getElem?_cons_succ] at d0 d1
  have h0 := b1.frozen 0
  have h1 := b1.frozen 1
  have hb9 := (b1.set 0 (.int .i64 N)).set 1 (.slice A3 T.length cap3)
  have hz1 := hb2.size
  simp only [World.size_alloc] at hz1
  have hl9 : (Value.slice A3 T.length cap3).ownBlock = none ∨ (Value.slice A3 T.length cap3).ownBlock ≠ some (w.heap.size + 1) := .inr fun e => by have := (hown.lt _ e).1; simp only [World.size_alloc] at this; omega
  have hset : ∀ (wz : World) (i : Nat) (u : Value), wz.grownBy (wz.setCell ⟨w.heap.size + 1, i, none⟩ u) (some (w.heap.size + 1)) := fun wz i u => ⟨rfl, rfl, rfl, (KeepsWalks.setCell wz _ u).size, fun b _ hb => Below.heap_setCell _ _ _ b (fun e => hb (by rw [e]))⟩
  have hown9 := (hown.kept (hset w1 0 (.int .i64 N)) hl9).kept (hset _ 1 (.slice A3 T.length cap3)) hl9
  have hbel9 := (hb3.setCell (p := ⟨w.heap.size + 1, 0, none⟩) (by show w.heap.size ≤ w.heap.size + 1; omega) (.int .i64 N)).setCell (p := ⟨w.heap.size + 1, 1, none⟩) (by show w.heap.size ≤ w.heap.size + 1; omega) (.slice A3 T.length cap3)
  have Hb1 := Lib.hid b1; have Hhown := Lib.hid hown; have Hhb9 := Lib.hid hb9; have Hhl9 := Lib.hid hl9; have Hhset := Lib.hid hset; have Hhown9 := Lib.hid hown9; have Hhbel9 := Lib.hid hbel9; clear b1 hown hb9 hl9 hset hown9 hbel9
  go_wp2_with fail
  exact ret_cell rfl rfl Hhb9.out Try.underlying24 rfl (by kernel_rfl) rfl ⟨⟨_, rfl, own_base Hhown9.out (by simp; omega)⟩, Hhbel9.out⟩
end Go.Proofs.Ytckkpmjkajkkmaa
