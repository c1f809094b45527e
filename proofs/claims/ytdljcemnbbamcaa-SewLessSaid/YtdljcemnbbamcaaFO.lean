/- The law SewLess, walked. -/
import Derived.Deep.Cut
import Derived.Deep.CutBlock
import Derived.Deep.DeepCutAuto
import Derived.Test.YtdljcemnbbamcaaFM
import Derived.Test.YtdljcemnbbamcaaGC
import Derived.Test.YtdljcemnbbamcaaBM
namespace Go.Proofs.Ytdljcemnbbamcaa
open Go Go.RowKit Go.Words Go.Mesh

theorem keepU_store {w' wz : World} {g n0 : Nat} (hg : g < n0) (h : ∀ b, b ≠ g → b < w'.heap.size → wz.heap[b]? = w'.heap[b]?) : ∀ b, n0 ≤ b → b < w'.heap.size → wz.heap[b]? = w'.heap[b]? := fun b h1 h2 => h b (by omega) h2
/-- What stands behind the call of Sew in a law: its answer, with the surface laid in a variable. -/
def Laid (w0 : World) (N : Int) (T : List T3) (l : List P4) (s5 s6 s7 : Value) (wx : World) : Prop :=
  ∃ (g : Nat) (x0 x1 : Value) (c : Int), s5 = .pointer (some ⟨g, 0, none⟩) ∧ w0.heap.size ≤ g ∧ s7 = .int .i64 c ∧ Bk wx g 24 [x0, x1] ∧ Below w0.heap.size w0 wx ∧
    ((c ≠ 0 ∧ x0 = .int .i64 0 ∧ x1 = .slice none 0 0 ∧ s6 = .slice none 0 0) ∨
     (c = 0 ∧ Surf N T ∧ placedN (fun e => decide (e ∈ bedges T)) l = 0 ∧ Surf (rnk (labP l) N.toNat : Nat) (sewT (labP l) T) ∧ x0 = .int .i64 (rnk (labP l) N.toNat : Nat) ∧ Sl 3 RTri wx wx.heap.size x1 (sewT (labP l) T) ∧ Sl 1 RInt wx wx.heap.size s6 (sewOf (labP l) N.toNat)))
theorem end_laid {w' : World} {N : Int} {T : List T3} {l : List P4} {x o : Value} {c : Int} (h : SewEnd w' N T l x o c) : ∃ n0 A9 n9 c9, x = .agg #[.int .i64 n0, .slice A9 n9 c9] ∧
    ((c ≠ 0 ∧ Value.int .i64 n0 = .int .i64 0 ∧ Value.slice A9 n9 c9 = .slice none 0 0 ∧ o = .slice none 0 0) ∨ (c = 0 ∧ Surf N T ∧ placedN (fun e => decide (e ∈ bedges T)) l = 0 ∧ Surf (rnk (labP l) N.toNat : Nat) (sewT (labP l) T))) := by
  rcases h with ⟨_, h1, h2, h3⟩ | ⟨_, _, h1, h2, h3⟩ | ⟨_, _, _, h1, h2, h3⟩ | ⟨h1, h2, h3, h4, xs, h5, h6, _⟩
  · exact ⟨_, _, _, _, h2, .inl ⟨by omega, rfl, rfl, h3⟩⟩
  · exact ⟨_, _, _, _, h2, .inl ⟨h1, rfl, rfl, h3⟩⟩
  · exact ⟨_, _, _, _, h2, .inl ⟨by omega, rfl, rfl, h3⟩⟩
  · obtain ⟨A9, c9, rfl, _⟩ := h6.form
    exact ⟨_, _, _, _, h5, .inr ⟨h4, h1, h2, h3⟩⟩
/-- The surface stored in a variable that lay there ahead of the call, or was made behind it. -/
theorem laid_of {w0 w1 w' wx : World} {N : Int} {T : List T3} {l : List P4} {x0 x1 o : Value} {c : Int} {g : Nat}
    (hx : ((c ≠ 0 ∧ x0 = .int .i64 0 ∧ x1 = .slice none 0 0 ∧ o = .slice none 0 0) ∨ (c = 0 ∧ Surf N T ∧ placedN (fun e => decide (e ∈ bedges T)) l = 0 ∧ Surf (rnk (labP l) N.toNat : Nat) (sewT (labP l) T))))
    (hf : SewFar w1 w' N T l (.agg #[x0, x1]) o c) (hg : w0.heap.size ≤ g) (hk : Bk wx g 24 [x0, x1]) (hb : Below w0.heap.size w0 wx)
    (hwz : ∀ b, w1.heap.size ≤ b → b < w'.heap.size → wx.heap[b]? = w'.heap[b]?) : Laid w0 N T l (.pointer (some ⟨g, 0, none⟩)) o (.int .i64 c) wx := by
  refine ⟨g, x0, x1, c, rfl, hg, rfl, hk, hb, ?_⟩
  rcases hx with h | ⟨h1, h2, h3, h4⟩
  · exact .inl h
  · obtain ⟨xs, e1, e2, e3⟩ := hf h1 wx hwz
    have e4 : x0 = .int .i64 (rnk (labP l) N.toNat : Nat) ∧ x1 = xs := by
      injection e1 with e1
      have := congrArg Array.toList e1
      simp at this
      exact this
    exact .inr ⟨h1, h2, h3, h4, e4.1, by rw [e4.2]; exact e2, e3⟩
set_option maxRecDepth 40000 in
set_option maxHeartbeats 8000000 in
theorem sewless_law (sv : Value) (N : Int) (T : List T3) (v1 : Value) (l : List P4) (w : World) {B : Nat} (hB0 : B ≤ w.heap.size) (hT : Sl 3 RTri w B sv T) (hN : I64 N) (h1 : Sl 4 R4 w B v1 l ∧ ∀ p ∈ l, ok2 p.1 ∧ ok2 p.2) :
    Calls Try.prog 5 #[.agg #[.int .i64 N, sv], v1] w fun e w' => e = .returned (.bool true) ∧ Below w.heap.size w w' := by
  obtain ⟨hl, hok4⟩ := h1
  have hok : ∀ e ∈ edgs l, ok2 e := fun e he => by
    obtain ⟨p, hp, h1⟩ := List.mem_flatMap.1 he
    simp at h1
    rcases h1 with rfl | rfl
    · exact (hok4 p hp).1
    · exact (hok4 p hp).2
  obtain ⟨A, cap, rfl, hcap⟩ := hT.form
  obtain ⟨A2, cap2, rfl, hcap2⟩ := hl.form
  have hb0 := (Below.refl w.heap.size w).alloc (Nat.le_refl _) (.cells #[.int .i64 N, .slice A T.length cap] 24)
  have hk0 := Bk.new w 24 [.int .i64 N, .slice A T.length cap]
  have haw := awake20_calls (w.alloc (.cells #[.int .i64 N, .slice A T.length cap] 24))
  have hz0 : w.heap.size + 1 ≤ (w.alloc (.cells #[.int .i64 N, .slice A T.length cap] 24)).heap.size := by simp
  generalize hw0 : w.alloc (.cells #[.int .i64 N, .slice A T.length cap] 24) = w0 at *
  have HhT := Lib.hid hT; clear hT; have Hhl := Lib.hid hl; clear hl; have Hhok := Lib.hid hok; clear hok; have Hhok4 := Lib.hid hok4; clear hok4; have Hhaw := Lib.hid haw; clear haw; have Hhk0 := Lib.hid hk0; clear hk0
  go_enter Try.func5, Try.ntmps5
  go_wp2_with fail
  clear hw0
  refine Hhaw.out.mono ?_
  rintro e w1 ⟨rfl, hb1⟩
  have hz1 := hb1.size
  have hbel1 := hb0.trans (hb1.mono hb0.size)
  have hk1 := Hhk0.out.below hb1 (by omega)
  have c0 : w1.cell? ⟨w.heap.size, 0, none⟩ = some (.int .i64 N) := hk1.cell 0
  have c1 : w1.cell? ⟨w.heap.size, 1, none⟩ = some (.slice A T.length cap) := hk1.cell 1
  have Hhk1 := Lib.hid hk1; clear hk1
  by_cases hs1 : 40 < (T.length : Int)
  · go_wp2_with fail
    all_goals first | (exfalso; omega) | skip
    go_ret
    exact ⟨rfl, hbel1⟩
  by_cases hs2 : 200 < N
  · go_wp2_with fail
    all_goals first | (exfalso; omega) | skip
    go_ret
    exact ⟨rfl, hbel1⟩
  by_cases hs3 : 20 < (l.length : Int)
  · go_wp2_with fail
    all_goals first | (exfalso; omega) | skip
    go_ret
    exact ⟨rfl, hbel1⟩
  have hs4 : T.length ≤ 40 := by omega
  have hs5 : l.length ≤ 20 := by omega
  have hs6 : N ≤ 200 := by omega
  have hl1 := Hhl.out.below keeps_4 (hbel1.mono hB0)
  have hT1 := HhT.out.below keeps_tri (hbel1.mono hB0)
  have Hhl1 := Lib.hid hl1; clear hl1; have HhT1 := Lib.hid hT1; clear hT1
  go_upto_region 5 with fail
  all_goals first | (exfalso; omega) | skip
  go_cut [5, 6, 7] (fun s5 s6 s7 wx => Laid w1 N T l s5 s6 s7 wx)
  case first =>
    have hgi := fun wz (hz : Below w1.heap.size w1 wz) => given20_calls (w := wz) (Hhl1.out.below keeps_4 (hz.mono (by omega))) (show B ≤ wz.heap.size by have := hz.size; omega) (by omega)
    have hsw := fun wz (lv : Value) (hz : Below w1.heap.size w1 wz) (hv : Sl 4 R4 wz wz.heap.size lv l) => sew_calls2 (w := wz) (B := wz.heap.size) ((HhT1.out.below keeps_tri (hz.mono (by omega))).keep keeps_tri (Below.refl _ _) (show B ≤ wz.heap.size by have := hz.size; omega)) hv (Nat.le_refl _) hN (by omega) Hhok.out
    have hls : w.heap.size < w1.heap.size := by omega
    have Hhgi := Lib.hid hgi; clear hgi; have Hhsw := Lib.hid hsw; clear hsw
    go_wp2_with fail
    refine Go.Canon.wp_region_tree [0] (fun b => b = w.heap.size) (.seg [0,1] (.alt 2 (.alt 3 (.seg [4,5,6,7] (.alt 8 (.alt 9 (.seg [10,11] .fin) .no) .no)) (.alt 8 (.alt 3 (.seg [4,5,6,7] (.alt 9 (.seg [10,11] .fin) .no)) .no) .no)) (.alt 8 (.alt 2 (.alt 3 (.seg [4,5,6,7] (.alt 9 (.seg [10,11] .fin) .no)) .no) .no) .no))) mixed (by kernel_rfl) ?_
    refine Go.Canon.tr_seg ?_
    simp only [List.map_cons, List.map_nil, List.getD_cons_zero, List.getD_cons_succ]
    go_wp2_with fail
    refine Go.Canon.tr_to (Go.Canon.tr_alt ?_ (Go.Canon.tr_one ?_))
    · simp only [List.getD_cons_zero, List.getD_cons_succ]
      go_wp2_with fail
      refine (Hhgi.out w1.drew (Below.refl _ w1).drew).mono ?_
      rintro e w2 ⟨⟨v, rfl, hown⟩, hb2⟩
      have hb2 := (Below.refl w1.heap.size w1).drew.trans hb2
      have hz2 := hb2.size
      have hsl2 := sl_own_4 hown
      obtain ⟨A3, cap3, rfl, hc3⟩ := own_form hown
      go_wp2_with fail
      refine Go.Canon.tr_end (fun b hb => by subst hb; exact hb2.block _ hls) (Go.Canon.tr_alt ?_ (Go.Canon.tr_one ?_))
      · have hs9 := Hhsw.out w2 _ hb2 hsl2
        have Hhown := Lib.hid hown; clear hown; have Hhsl2 := Lib.hid hsl2; clear hsl2; have Hhs9 := Lib.hid hs9; clear hs9
        simp only [List.getD_cons_zero, List.getD_cons_succ]
        go_wp2_with fail
        refine Hhs9.out.mono ?_
        rintro e w3 ⟨⟨x, o, c, rfl, hend, hfar⟩, hb3⟩
        obtain ⟨n0, A9, n9, c9, rfl, hor⟩ := end_laid hend
        have hb3' := hb2.trans (hb3.mono hz2)
        have hz3 := hb3.size
        clear hend
        have Hhor := Lib.hid hor; clear hor; have Hhfar := Lib.hid hfar; clear hfar
        go_wp2_with fail
        refine Go.Canon.tr_end (fun b hb => by subst hb; exact hb3'.block _ hls) (Go.Canon.tr_seg ?_)
        simp only [List.map_cons, List.map_nil, List.getD_cons_zero, List.getD_cons_succ]
        go_wp2_with fail
        refine Go.Canon.tr_to (Go.Canon.tr_one ?_)
        simp only [List.getD_cons_zero, List.getD_cons_succ]
        go_wp2_with fail
        have hb4 := (Below.refl w3.heap.size w3).alloc (Nat.le_refl _) (.cells #[.int .i64 0, .slice none 0 0] 24)
        have hb4' := hb3'.trans (hb4.mono (by omega))
        refine Go.Canon.tr_end (fun b hb => by subst hb; exact hb4'.block _ hls) (Go.Canon.tr_one ?_)
        simp only [List.getD_cons_zero, List.getD_cons_succ]
        go_wp2_with fail
        have hks := Bk.new w3 24 [.int .i64 n0, .slice A9 n9 c9]
        have hb5 := (Below.refl w3.heap.size w3).alloc (Nat.le_refl _) (.cells #[.int .i64 n0, .slice A9 n9 c9] 24)
        have hb5' := hb3'.trans (hb5.mono (by omega))
        refine Go.Canon.tr_end (fun b hb => by subst hb; exact hb5'.block _ hls) (Go.Canon.tr_seg ?_)
        simp only [List.map_cons, List.map_nil, List.getD_cons_zero, List.getD_cons_succ]
        go_wp2_with fail
        refine Go.Canon.tr_to (Go.Canon.tr_fin (by rfl) (List.forall_mem_cons.2 ⟨.inl ⟨_, rfl, rfl, by rw [World.cell?_drew, c0]; rfl⟩, fun _ h => by cases h⟩) ?_)
        go_wp2_with fail
        go_meet
        exact laid_of Hhor.out Hhfar.out (by omega) hks hb5' (fun b _ h2 => hb5.block b h2)
      · -- the variable is made between the two calls
        simp only [List.getD_cons_zero, List.getD_cons_succ]
        go_wp2_with fail
        have hkz := Bk.new w2 24 [.int .i64 0, .slice none 0 0]
        have hb4 := (Below.refl w2.heap.size w2).alloc (Nat.le_refl _) (.cells #[.int .i64 0, .slice none 0 0] 24)
        have hb4' := hb2.trans (hb4.mono hz2)
        have hs9 := Hhsw.out _ _ hb4' ((hsl2.below keeps_4 hb4).keep keeps_4 (Below.refl _ _) hb4.size)
        have hz4 : w2.heap.size < (w2.alloc (.cells #[.int .i64 0, .slice none 0 0] 24)).heap.size := by simp
        generalize hw4 : w2.alloc (.cells #[.int .i64 0, .slice none 0 0] 24) = w4 at *
        have Hhown := Lib.hid hown; clear hown; have Hhsl2 := Lib.hid hsl2; clear hsl2; have Hhs9 := Lib.hid hs9; clear hs9; have Hhkz := Lib.hid hkz; clear hkz
        clear hw4
        refine Go.Canon.tr_end (fun b hb => by subst hb; exact hb4'.block _ hls) (Go.Canon.tr_one ?_)
        simp only [List.getD_cons_zero, List.getD_cons_succ]
        go_wp2_with fail
        refine Hhs9.out.mono ?_
        rintro e w3 ⟨⟨x, o, c, rfl, hend, hfar⟩, hb3⟩
        obtain ⟨n0, A9, n9, c9, rfl, hor⟩ := end_laid hend
        have hb3' := hb4'.trans (hb3.mono hb4'.size)
        have hz3 := hb3.size
        have hkz3 := Hhkz.out.below hb3 hz4
        clear hend
        have Hhor := Lib.hid hor; clear hor; have Hhfar := Lib.hid hfar; clear hfar
        go_wp2_with fail
        refine Go.Canon.tr_end (fun b hb => by subst hb; exact hb3'.block _ hls) (Go.Canon.tr_seg ?_)
        simp only [List.map_cons, List.map_nil, List.getD_cons_zero, List.getD_cons_succ]
        go_wp2_with fail
        have e0 : w3.cell? ⟨w2.heap.size, 0, none⟩ = some (.int .i64 0) := hkz3.cell 0
        have e1 : w3.cell? ⟨w2.heap.size, 1, none⟩ = some (.slice none 0 0) := hkz3.cell 1
        have f1 := hkz3.frozen
        have hks := (hkz3.set 0 (.int .i64 n0)).set 1 (.slice A9 n9 c9)
        have hbs := (hb3'.setCell (p := ⟨w2.heap.size, 0, none⟩) (by show w1.heap.size ≤ w2.heap.size; exact hz2) (.int .i64 n0)).setCell (p := ⟨w2.heap.size, 1, none⟩) (by show w1.heap.size ≤ w2.heap.size; exact hz2) (.slice A9 n9 c9)
        have Hhkz3 := Lib.hid hkz3; clear hkz3; have Hhks := Lib.hid hks; clear hks; have Hhbs := Lib.hid hbs; clear hbs
        refine Go.Canon.tr_to (Go.Canon.tr_one ?_)
        simp only [List.getD_cons_zero, List.getD_cons_succ]
        go_wp2_with fail
        refine Go.Canon.tr_end (fun b hb => by subst hb; exact Hhbs.out.block _ hls) (Go.Canon.tr_seg ?_)
        simp only [List.map_cons, List.map_nil, List.getD_cons_zero, List.getD_cons_succ]
        go_wp2_with fail
        refine Go.Canon.tr_to (Go.Canon.tr_fin (by rfl) (List.forall_mem_cons.2 ⟨.inl ⟨_, rfl, rfl, by rw [World.cell?_drew, c0]; rfl⟩, fun _ h => by cases h⟩) ?_)
        go_wp2_with fail
        go_meet
        exact laid_of Hhor.out Hhfar.out hz2 Hhks.out Hhbs.out (fun b h1 _ => by
          rw [Below.heap_setCell _ ⟨w2.heap.size, 1, none⟩ _ b (by show b ≠ w2.heap.size; omega), Below.heap_setCell _ ⟨w2.heap.size, 0, none⟩ _ b (by show b ≠ w2.heap.size; omega)])
    · simp only [List.getD_cons_zero, List.getD_cons_succ]
      go_wp2_with fail
      have hkz := (Bk.new w1 24 [.int .i64 0, .slice none 0 0]).drew
      have hb4' := ((Below.refl w1.heap.size w1).alloc (Nat.le_refl _) (.cells #[.int .i64 0, .slice none 0 0] 24)).drew
      have hz4 : w1.heap.size < (w1.alloc (.cells #[.int .i64 0, .slice none 0 0] 24)).drew.heap.size := by simp
      generalize hw4 : (w1.alloc (.cells #[.int .i64 0, .slice none 0 0] 24)).drew = w4 at *
      clear hw4
      refine Go.Canon.tr_end (fun b hb => by subst hb; exact hb4'.block _ hls) (Go.Canon.tr_one ?_)
      simp only [List.getD_cons_zero, List.getD_cons_succ]
      go_wp2_with fail
      refine (Hhgi.out w4 hb4').mono ?_
      rintro e w2 ⟨⟨v, rfl, hown⟩, hb2⟩
      have hb2' := hb4'.trans (hb2.mono hb4'.size)
      have hz2 := hb2.size
      have hsl2 := sl_own_4 hown
      obtain ⟨A3, cap3, rfl, hc3⟩ := own_form hown
      have hkz2 := hkz.below hb2 hz4
      have hs9 := Hhsw.out w2 _ hb2' hsl2
      have Hhown := Lib.hid hown; clear hown; have Hhsl2 := Lib.hid hsl2; clear hsl2; have Hhs9 := Lib.hid hs9; clear hs9
      go_wp2_with fail
      refine Go.Canon.tr_end (fun b hb => by subst hb; exact hb2'.block _ hls) (Go.Canon.tr_one ?_)
      simp only [List.getD_cons_zero, List.getD_cons_succ]
      go_wp2_with fail
      refine Hhs9.out.mono ?_
      rintro e w3 ⟨⟨x, o, c, rfl, hend, hfar⟩, hb3⟩
      obtain ⟨n0, A9, n9, c9, rfl, hor⟩ := end_laid hend
      have hb3' := hb2'.trans (hb3.mono hb2'.size)
      have hz3 := hb3.size
      have hkz3 := hkz2.below hb3 hkz2.lt
      clear hend
      have Hhor := Lib.hid hor; clear hor; have Hhfar := Lib.hid hfar; clear hfar
      go_wp2_with fail
      refine Go.Canon.tr_end (fun b hb => by subst hb; exact hb3'.block _ hls) (Go.Canon.tr_seg ?_)
      simp only [List.map_cons, List.map_nil, List.getD_cons_zero, List.getD_cons_succ]
      go_wp2_with fail
      have e0 : w3.cell? ⟨w1.heap.size, 0, none⟩ = some (.int .i64 0) := hkz3.cell 0
      have e1 : w3.cell? ⟨w1.heap.size, 1, none⟩ = some (.slice none 0 0) := hkz3.cell 1
      have f1 := hkz3.frozen
      have hks := (hkz3.set 0 (.int .i64 n0)).set 1 (.slice A9 n9 c9)
      have hbs := (hb3'.setCell (p := ⟨w1.heap.size, 0, none⟩) (Nat.le_refl _) (.int .i64 n0)).setCell (p := ⟨w1.heap.size, 1, none⟩) (Nat.le_refl _) (.slice A9 n9 c9)
      have Hhkz := Lib.hid hkz; clear hkz; have Hhkz2 := Lib.hid hkz2; clear hkz2; have Hhkz3 := Lib.hid hkz3; clear hkz3; have Hhks := Lib.hid hks; clear hks; have Hhbs := Lib.hid hbs; clear hbs
      refine Go.Canon.tr_to (Go.Canon.tr_one ?_)
      simp only [List.getD_cons_zero, List.getD_cons_succ]
      go_wp2_with fail
      refine Go.Canon.tr_end (fun b hb => by subst hb; exact Hhbs.out.block _ hls) (Go.Canon.tr_seg ?_)
      simp only [List.map_cons, List.map_nil, List.getD_cons_zero, List.getD_cons_succ]
      go_wp2_with fail
      refine Go.Canon.tr_to (Go.Canon.tr_fin (by rfl) (List.forall_mem_cons.2 ⟨.inl ⟨_, rfl, rfl, by rw [World.cell?_drew, c0]; rfl⟩, fun _ h => by cases h⟩) ?_)
      go_wp2_with fail
      go_meet
      exact laid_of Hhor.out Hhfar.out (Nat.le_refl _) Hhks.out Hhbs.out (fun b h1 _ => by
        rw [Below.heap_setCell _ ⟨w1.heap.size, 1, none⟩ _ b (by show b ≠ w1.heap.size; omega), Below.heap_setCell _ ⟨w1.heap.size, 0, none⟩ _ b (by show b ≠ w1.heap.size; omega)])
  case rest =>
    obtain ⟨g5, x0, x1, c, rfl, hg5, rfl, hkx, hbx, hor⟩ := hcut
    have hbelc := hbel1.trans (hbx.mono hbel1.size)
    have hzc := hbx.size
    have hls : w.heap.size < w1.heap.size := by omega
    have c0c := (hbx.cell (p := ⟨w.heap.size, 0, none⟩) hls).trans c0
    have c1c := (hbx.cell (p := ⟨w.heap.size, 1, none⟩) hls).trans c1
    have hgl := hkx.lt
    rcases hor with ⟨hc, rfl, rfl, rfl⟩ | ⟨rfl, hs, hpz, hs', rfl, hx1, ho⟩
    · have hcb : (c != 0) = true := bne_iff_ne.2 hc
      have z0 : wc.cell? ⟨g5, 0, none⟩ = some (.int .i64 0) := hkx.cell 0
      have z1 : wc.cell? ⟨g5, 1, none⟩ = some (.slice none 0 0) := hkx.cell 1
      have Hhkx := Lib.hid hkx; clear hkx
      go_wp2_with fail
      go_ret
      exact ⟨rfl, hbelc⟩
    obtain ⟨n, rfl⟩ : ∃ n : Nat, N = n := ⟨N.toNat, by have := hs.n0; omega⟩
    have hn9 : n ≤ 200 := by omega
    have hrT := surf_tri hs
    have hall := placed_zero hpz
    have hme := sewn_meets hs hs' (fun e he => of_decide_eq_true (hall.1 e he)) hall.2
    have hbi := bord_inn T
    have hbi' := bord_inn (sewT (labP l) T)
    have hev := inn_even hs
    have hev' := inn_even hs'
    have hlen9 := sewT_len (labP l) T
    change _ ≤ (inn (sewT (labP l) T)).length at hme
    have hnil : l.length = 0 → sewT (labP l) T = T ∧ rnk (labP l) n = n := fun h9 => by
      have : l = [] := List.length_eq_zero_iff.1 h9
      subst this
      exact ⟨by rw [labP_nil]; exact sewT_id hs, by rw [labP_nil]; exact rnk_id n⟩
    rw [Int.toNat_natCast] at hs' ho
    simp only [Int.toNat_natCast] at hkx
    obtain ⟨G, hG⟩ : ∃ G, labP l = G := ⟨_, rfl⟩
    rw [hG] at hs' ho hkx hx1 hme hbi' hev' hlen9 hnil
    have hT'at : ∀ i (t : T3), T[i]? = some t → (sewT G T)[i]? = some (numL G t.1, numL G t.2.1, numL G t.2.2) := fun i t hi => by unfold sewT; rw [List.getElem?_map, hi]; rfl
    have hOat : ∀ m : Nat, m < n → (sewOf G n)[m]? = some (numL G (m : Int)) := fun m hm => by
      unfold sewOf
      rw [List.getElem?_map, List.getElem?_range hm]; rfl
    have hOlen : (sewOf G n).length = n := by unfold sewOf; simp
    obtain ⟨T', hT'⟩ : ∃ T', sewT G T = T' := ⟨_, rfl⟩
    obtain ⟨O, hO⟩ : ∃ O, sewOf G n = O := ⟨_, rfl⟩
    obtain ⟨rv, hrv⟩ : ∃ rv, rnk G n = rv := ⟨_, rfl⟩
    have hrv5 : rv ≤ n := by rw [← hrv]; exact rnk_le G n
    rw [hT'] at hs' hx1 hme hbi' hev' hlen9 hnil
    rw [hT'] at hT'at
    rw [hO] at ho hOlen
    rw [hO] at hOat
    rw [hrv] at hs' hkx hnil
    have z0 : wc.cell? ⟨g5, 0, none⟩ = some (.int .i64 (rv : Int)) := hkx.cell 0
    obtain ⟨A6, cap6, rfl, hc6⟩ := hx1.form
    obtain ⟨A7, cap7, rfl, hc7⟩ := ho.form
    have z1 : wc.cell? ⟨g5, 1, none⟩ = some (.slice A6 T'.length cap6) := hkx.cell 1
    have hTc := (HhT1.out.below keeps_tri (hbx.mono (by omega))).keep keeps_tri (Below.refl _ _) (show B ≤ wc.heap.size by omega)
    have htb1 := table12_calls (w := wc.drew) (hTc.drew keeps_tri) (Nat.le_refl _) hN
    have htb2 := fun wz (hz : Below wc.heap.size wc wz) => table12_calls (w := wz) (hx1.below keeps_tri hz) (by have := hz.size; exact this) (N := (rv : Int)) (I64.nat (by omega))
    rw [hlen9] at htb2 z1
    simp only [hlen9, hOlen] at hc6 hc7 ⊢
    have hlen10 := Lib.hid hlen9
    have hOlen10 := Lib.hid hOlen
    clear hlen9 hOlen
    have Hhkx := Lib.hid hkx; clear hkx; have Hhx1 := Lib.hid hx1; clear hx1; have Hho := Lib.hid ho; clear ho; have HhT'at := Lib.hid hT'at; clear hT'at; have HhOat := Lib.hid hOat; clear hOat; have Hhall := Lib.hid hall; clear hall; have Hhpz := Lib.hid hpz; clear hpz; have Hhs := Lib.hid hs; clear hs; have Hhs' := Lib.hid hs'; clear hs'; have Hhme := Lib.hid hme; clear hme; have Hhbi := Lib.hid hbi; clear hbi; have Hhbi' := Lib.hid hbi'; clear hbi'; have Hhev := Lib.hid hev; clear hev; have Hhev' := Lib.hid hev'; clear hev'; have Hhnil := Lib.hid hnil; clear hnil; have HhTc := Lib.hid hTc; clear hTc; have Hhtb1 := Lib.hid htb1; clear htb1; have Hhtb2 := Lib.hid htb2; clear htb2; have HhG := Lib.hid hG; clear hG; have HhT' := Lib.hid hT'; clear hT'; have HhO := Lib.hid hO; clear hO; have Hhrv := Lib.hid hrv; clear hrv; have HhrT := Lib.hid hrT; clear hrT
    go_wp2_with fail
    refine Go.Canon.wp_region_tree [2] (fun b => b = g5) (.seg [0,2] (.alt 1 (.alt 3 (.seg [4,5] .fin) .no) .no)) mixed (by kernel_rfl) ?_
    refine Go.Canon.tr_seg ?_
    simp only [List.map_cons, List.map_nil, List.getD_cons_zero, List.getD_cons_succ]
    go_wp2_with fail
    refine Go.Canon.tr_to (Go.Canon.tr_one ?_)
    simp only [List.getD_cons_zero, List.getD_cons_succ]
    go_wp2_with fail
    refine Hhtb1.out.mono ?_
    rintro e w2 ⟨⟨pv, B1, rfl, hor1⟩, hb2⟩
    have hb2 := (Below.refl wc.heap.size wc).drew.trans hb2
    have hz2 := hb2.size
    rcases hor1 with ⟨_, hs1, htab1⟩ | ⟨h9, _⟩
    case inr => exact absurd ⟨hs4, Hhs.out⟩ h9
    have hle1 := htab1.le
    obtain ⟨gt1, rfl⟩ : ∃ g, pv = .pointer (some ⟨g, 0, none⟩) := by
      obtain ⟨g, _, _, _, _, _, rfl, _⟩ := htab1
      exact ⟨_, rfl⟩
    have htb2' := Hhtb2.out w2 hb2
    have Hhtb2' := Lib.hid htb2'
    clear htb2'
    have Hhtab1 := Lib.hid htab1; clear htab1; have Hhs1 := Lib.hid hs1; clear hs1
    go_wp2_with fail
    refine Go.Canon.tr_end (fun b hb => by subst hb; exact hb2.block _ hgl) (Go.Canon.tr_one ?_)
    simp only [List.getD_cons_zero, List.getD_cons_succ]
    go_wp2_with fail
    refine Hhtb2'.out.mono ?_
    rintro e w3 ⟨⟨pv, B2, rfl, hor2⟩, hb3⟩
    have hb3' := hb2.trans (hb3.mono hz2)
    have hz3 := hb3.size
    rcases hor2 with ⟨_, hs2, htab2⟩ | ⟨h9, _⟩
    case inr => exact absurd ⟨by rw [hlen10.out]; exact hs4, Hhs'.out⟩ h9
    have hle2 := htab2.le
    obtain ⟨gt2, rfl⟩ : ∃ g, pv = .pointer (some ⟨g, 0, none⟩) := by
      obtain ⟨g, _, _, _, _, _, rfl, _⟩ := htab2
      exact ⟨_, rfl⟩
    have htab1' := Hhtab1.out.below hb3 hle1
    have Hhtab1' := Lib.hid htab1'; clear htab1'; have Hhtab2 := Lib.hid htab2; clear htab2; have Hhs2 := Lib.hid hs2; clear hs2
    go_wp2_with fail
    refine Go.Canon.tr_end (fun b hb => by subst hb; exact hb3'.block _ hgl) (Go.Canon.tr_seg ?_)
    simp only [List.map_cons, List.map_nil, List.getD_cons_zero, List.getD_cons_succ]
    go_wp2_with fail
    refine Go.Canon.tr_to (Go.Canon.tr_fin (by rfl) (List.forall_mem_cons.2 ⟨.inl ⟨_, rfl, rfl, by rw [World.cell?_drew, z0]; rfl⟩, fun _ h => by cases h⟩) ?_)
    have c0d := (hb3'.cell (p := ⟨w.heap.size, 0, none⟩) (show w.heap.size < wc.heap.size by omega)).trans c0c
    have c1d := (hb3'.cell (p := ⟨w.heap.size, 1, none⟩) (show w.heap.size < wc.heap.size by omega)).trans c1c
    have z0d := (hb3'.cell (p := ⟨g5, 0, none⟩) hgl).trans z0
    have z1d := (hb3'.cell (p := ⟨g5, 1, none⟩) hgl).trans z1
    have hbel3 := hbelc.trans (hb3'.mono hbelc.size)
    go_wp2_with fail
    all_goals first | (exfalso; omega) | skip
    go_loopw [10] (fun iv wr => ∃ i : Nat, i ≤ T.length ∧ iv = .int .i64 (i : Int) ∧ Below w3.heap.size w3 wr) (fun iv _ => T.length - (intOf iv).toNat)
    case atStart => exact ⟨0, by omega, rfl, Below.refl _ _⟩
    case round =>
      obtain ⟨i, hi, rfl, hbel10⟩ := hrel
      have hz10 := hbel10.size
      have hcr := hb3'.trans (hbel10.mono (show wc.heap.size ≤ w3.heap.size by omega))
      have c0e := (hbel10.cell (p := ⟨w.heap.size, 0, none⟩) (show w.heap.size < w3.heap.size by omega)).trans c0d
      have c1e := (hbel10.cell (p := ⟨w.heap.size, 1, none⟩) (show w.heap.size < w3.heap.size by omega)).trans c1d
      have z0e := (hbel10.cell (p := ⟨g5, 0, none⟩) (show g5 < w3.heap.size by omega)).trans z0d
      have z1e := (hbel10.cell (p := ⟨g5, 1, none⟩) (show g5 < w3.heap.size by omega)).trans z1d
      by_cases hil : i < T.length
      · obtain ⟨b, o, rfl, hb, a1, a2, a3⟩ := (HhTc.out.below keeps_tri hcr).tri_at hil
        have hrr := HhrT.out _ (List.getElem_mem hil)
        have hTx := HhT'at.out i _ (List.getElem?_eq_getElem hil)
        obtain ⟨b', o', rfl, hb', d1, d2, d3⟩ := (Hhx1.out.below keeps_tri hcr).tri_at (k := i) (by have := (List.getElem?_eq_some_iff.1 hTx).1; exact this)
        have hee : T'[i]'(List.getElem?_eq_some_iff.1 hTx).1 = _ := (List.getElem?_eq_some_iff.1 hTx).2
        rw [hee] at d1 d2 d3
        generalize T[i] = x at *
        obtain ⟨x1, x2, x3⟩ := x
        simp only [] at a1 a2 a3 d1 d2 d3 hrr
        obtain ⟨⟨p1, q1⟩, ⟨p2, q2⟩, p3, q3⟩ := hrr
        obtain ⟨n1, rfl⟩ : ∃ m : Nat, x1 = (m : Int) := ⟨x1.toNat, by omega⟩
        obtain ⟨n2, rfl⟩ : ∃ m : Nat, x2 = (m : Int) := ⟨x2.toNat, by omega⟩
        obtain ⟨n3, rfl⟩ : ∃ m : Nat, x3 = (m : Int) := ⟨x3.toNat, by omega⟩
        have hO1 := HhOat.out n1 (by omega)
        have hO2 := HhOat.out n2 (by omega)
        have hO3 := HhOat.out n3 (by omega)
        have hlO1 := (List.getElem?_eq_some_iff.1 hO1).1
        have hlO2 := (List.getElem?_eq_some_iff.1 hO2).1
        have hlO3 := (List.getElem?_eq_some_iff.1 hO3).1
        obtain ⟨bo, oo, rfl, hbo, o1⟩ := (Hho.out.below keeps_int hcr).int_at hlO1
        obtain ⟨_, _, e9, _, o2⟩ := (Hho.out.below keeps_int hcr).int_at hlO2
        obtain ⟨_, _, e8, _, o3⟩ := (Hho.out.below keeps_int hcr).int_at hlO3
        injection e9 with e9; injection e9 with e9 e7 _; subst e9; subst e7
        injection e8 with e8; injection e8 with e8 e7 _; subst e8; subst e7
        rw [(List.getElem?_eq_some_iff.1 hO1).2] at o1
        rw [(List.getElem?_eq_some_iff.1 hO2).2] at o2
        rw [(List.getElem?_eq_some_iff.1 hO3).2] at o3
        generalize numL G (n1 : Int) = y1 at *
        generalize numL G (n2 : Int) = y2 at *
        generalize numL G (n3 : Int) = y3 at *
        have hbo2 : bo < wr.heap.size := by have := hcr.size; omega
        have hgs : w.heap.size < wr.heap.size := by have := hcr.size; omega
        have hg5r : g5 < wr.heap.size := by have := hcr.size; omega
        have hbw : b < wr.heap.size := by have := hcr.size; omega
        have hbw' : b' < wr.heap.size := by have := hcr.size; omega
        have hq : ∀ W, Sem.run Try.prog (Op.equalIn 10000 57 (.agg #[.int .i64 y1, .int .i64 y2, .int .i64 y3]) (.agg #[.int .i64 y1, .int .i64 y2, .int .i64 y3])) W = .ok true W := fun W => by rw [tri_run20]; simp
        have kb1 : ∀ X : Obj, Go.Canon.KeepU (fun b => b < wr.heap.size) wr.drew (wr.drew.alloc X) := fun X => keep_below (B := wr.heap.size) ((Below.refl wr.heap.size wr.drew).alloc (Nat.le_refl _) X)
        have kb2 : ∀ X Y : Obj, Go.Canon.KeepU (fun b => b < wr.heap.size) wr.drew ((wr.drew.alloc X).alloc Y) := fun X Y => keep_below (B := wr.heap.size) (((Below.refl wr.heap.size wr.drew).alloc (Nat.le_refl _) X).alloc (by simp) Y)
        have hln1 : (n1 : Int) < (n : Int) := by omega
        have hln2 : (n2 : Int) < (n : Int) := by omega
        have hln3 : (n3 : Int) < (n : Int) := by omega
        clear hee
        have HhTx := Lib.hid hTx; clear hTx; have HhO1 := Lib.hid hO1; clear hO1; have HhO2 := Lib.hid hO2; clear hO2; have HhO3 := Lib.hid hO3; clear hO3; have HhlO1 := Lib.hid hlO1; clear hlO1; have HhlO2 := Lib.hid hlO2; clear hlO2; have HhlO3 := Lib.hid hlO3; clear hlO3; have Hhcr := Lib.hid hcr; clear hcr
        go_wp2_with fail
        refine Go.Canon.wp_region_tree [1, 4, 6, 9] (fun b => b < wr.heap.size) (.seg [0,1,2,3,4,5,6,7,8,9] (.alt 10 (.alt 11 (.alt 12 (.alt 13 .fin .no) .no) .no) (.alt 11 (.alt 10 (.alt 12 (.alt 13 .fin .no) .no) .no) .no))) mixed (by kernel_rfl) ?_
        refine Go.Canon.tr_seg ?_
        simp only [List.map_cons, List.map_nil, List.getD_cons_zero, List.getD_cons_succ]
        go_wp2_with fail
        refine Go.Canon.tr_to (Go.Canon.tr_alt ?_ (Go.Canon.tr_alt ?_ Go.Canon.tr_no))
        · simp only [List.getD_cons_zero, List.getD_cons_succ]
          go_wp2_with fail
          refine Go.Canon.tr_end (kb1 _) (Go.Canon.tr_one ?_)
          simp only [List.getD_cons_zero, List.getD_cons_succ]
          go_wp2_with fail
          refine Go.Canon.tr_end (kb2 _ _) (Go.Canon.tr_one ?_)
          simp only [List.getD_cons_zero, List.getD_cons_succ]
          go_wp2_with fail
          refine Go.Canon.tr_end (kb2 _ _) (Go.Canon.tr_one ?_)
          simp only [List.getD_cons_zero, List.getD_cons_succ]
          go_wp2_with fail
          refine Go.Canon.tr_end (kb2 _ _) (Go.Canon.tr_fin (by rfl) (List.forall_mem_cons.2 ⟨.inl ⟨_, rfl, hgs, by rw [World.cell?_drew, c1e]; rfl⟩, List.forall_mem_cons.2 ⟨.inl ⟨_, rfl, hbw, by rw [World.cell?_drew, a1]; rfl⟩, List.forall_mem_cons.2 ⟨.inl ⟨_, rfl, hg5r, by rw [World.cell?_drew, z1e]; rfl⟩, List.forall_mem_cons.2 ⟨.inl ⟨_, rfl, hbw', by rw [World.cell?_drew, d1]; rfl⟩, fun _ h => by cases h⟩⟩⟩⟩) ?_)
          obtain ⟨wp, hwpe⟩ : ∃ wp, wp = ((wr.alloc (.cells #[.int .i64 (n1 : Int), .int .i64 (n2 : Int), .int .i64 (n3 : Int)] 57)).alloc (.cells #[.int .i64 y1, .int .i64 y2, .int .i64 y3] 57)).drew := ⟨_, rfl⟩
          have hwp : Below wr.heap.size wr wp := by rw [hwpe]; exact (((Below.refl wr.heap.size wr).alloc (Nat.le_refl _) _).alloc (by simp) _).drew
          have hkx : Bk wp (wr.heap.size) 57 [.int .i64 (n1 : Int), .int .i64 (n2 : Int), .int .i64 (n3 : Int)] := by rw [hwpe]; first | exact ((Bk.new wr _ _).alloc _).drew | exact (Bk.new' _ _ (by simp)).drew
          have hky : Bk wp (wr.heap.size + 1) 57 [.int .i64 y1, .int .i64 y2, .int .i64 y3] := by rw [hwpe]; first | exact ((Bk.new wr _ _).alloc _).drew | exact (Bk.new' _ _ (by simp)).drew
          rw [← hwpe]
          clear hwpe
          have x0' : wp.cell? ⟨wr.heap.size, 0, none⟩ = some (.int .i64 (n1 : Int)) := hkx.cell 0
          have x1' : wp.cell? ⟨wr.heap.size, 1, none⟩ = some (.int .i64 (n2 : Int)) := hkx.cell 1
          have x2' : wp.cell? ⟨wr.heap.size, 2, none⟩ = some (.int .i64 (n3 : Int)) := hkx.cell 2
          have y0' : wp.cell? ⟨wr.heap.size + 1, 0, none⟩ = some (.int .i64 y1) := hky.cell 0
          have y1' : wp.cell? ⟨wr.heap.size + 1, 1, none⟩ = some (.int .i64 y2) := hky.cell 1
          have y2' : wp.cell? ⟨wr.heap.size + 1, 2, none⟩ = some (.int .i64 y3) := hky.cell 2
          have o1' := (hwp.cell (p := ⟨bo, oo + n1, none⟩) hbo2).trans o1
          have o2' := (hwp.cell (p := ⟨bo, oo + n2, none⟩) hbo2).trans o2
          have o3' := (hwp.cell (p := ⟨bo, oo + n3, none⟩) hbo2).trans o3
          have hfin := (hbel10.trans (hwp.mono hbel10.size)).drew
          have Hhkx := Lib.hid hkx; clear hkx; have Hhky := Lib.hid hky; clear hky; have Hhfin := Lib.hid hfin; clear hfin
          go_wp2_with fail
          refine Go.Canon.wp_region_text mixed (by kernel_rfl) ?_
          go_wp2_with fail
          refine Go.Canon.chk (by rfl) ?_
          go_wp2_with fail
          exact ⟨⟨i + 1, by omega, by simp, Hhfin.out⟩, by simp [intOf]; omega⟩
        · simp only [List.getD_cons_zero, List.getD_cons_succ]
          go_wp2_with fail
          refine Go.Canon.tr_end (kb1 _) (Go.Canon.tr_one ?_)
          simp only [List.getD_cons_zero, List.getD_cons_succ]
          go_wp2_with fail
          refine Go.Canon.tr_end (kb2 _ _) (Go.Canon.tr_one ?_)
          simp only [List.getD_cons_zero, List.getD_cons_succ]
          go_wp2_with fail
          refine Go.Canon.tr_end (kb2 _ _) (Go.Canon.tr_one ?_)
          simp only [List.getD_cons_zero, List.getD_cons_succ]
          go_wp2_with fail
          refine Go.Canon.tr_end (kb2 _ _) (Go.Canon.tr_fin (by rfl) (List.forall_mem_cons.2 ⟨.inl ⟨_, rfl, hgs, by rw [World.cell?_drew, c1e]; rfl⟩, List.forall_mem_cons.2 ⟨.inl ⟨_, rfl, hbw, by rw [World.cell?_drew, a1]; rfl⟩, List.forall_mem_cons.2 ⟨.inl ⟨_, rfl, hg5r, by rw [World.cell?_drew, z1e]; rfl⟩, List.forall_mem_cons.2 ⟨.inl ⟨_, rfl, hbw', by rw [World.cell?_drew, d1]; rfl⟩, fun _ h => by cases h⟩⟩⟩⟩) ?_)
          obtain ⟨wp, hwpe⟩ : ∃ wp, wp = ((wr.alloc (.cells #[.int .i64 y1, .int .i64 y2, .int .i64 y3] 57)).alloc (.cells #[.int .i64 (n1 : Int), .int .i64 (n2 : Int), .int .i64 (n3 : Int)] 57)).drew := ⟨_, rfl⟩
          have hwp : Below wr.heap.size wr wp := by rw [hwpe]; exact (((Below.refl wr.heap.size wr).alloc (Nat.le_refl _) _).alloc (by simp) _).drew
          have hkx : Bk wp (wr.heap.size + 1) 57 [.int .i64 (n1 : Int), .int .i64 (n2 : Int), .int .i64 (n3 : Int)] := by rw [hwpe]; first | exact ((Bk.new wr _ _).alloc _).drew | exact (Bk.new' _ _ (by simp)).drew
          have hky : Bk wp (wr.heap.size) 57 [.int .i64 y1, .int .i64 y2, .int .i64 y3] := by rw [hwpe]; first | exact ((Bk.new wr _ _).alloc _).drew | exact (Bk.new' _ _ (by simp)).drew
          rw [← hwpe]
          clear hwpe
          have x0' : wp.cell? ⟨wr.heap.size + 1, 0, none⟩ = some (.int .i64 (n1 : Int)) := hkx.cell 0
          have x1' : wp.cell? ⟨wr.heap.size + 1, 1, none⟩ = some (.int .i64 (n2 : Int)) := hkx.cell 1
          have x2' : wp.cell? ⟨wr.heap.size + 1, 2, none⟩ = some (.int .i64 (n3 : Int)) := hkx.cell 2
          have y0' : wp.cell? ⟨wr.heap.size, 0, none⟩ = some (.int .i64 y1) := hky.cell 0
          have y1' : wp.cell? ⟨wr.heap.size, 1, none⟩ = some (.int .i64 y2) := hky.cell 1
          have y2' : wp.cell? ⟨wr.heap.size, 2, none⟩ = some (.int .i64 y3) := hky.cell 2
          have o1' := (hwp.cell (p := ⟨bo, oo + n1, none⟩) hbo2).trans o1
          have o2' := (hwp.cell (p := ⟨bo, oo + n2, none⟩) hbo2).trans o2
          have o3' := (hwp.cell (p := ⟨bo, oo + n3, none⟩) hbo2).trans o3
          have hfin := (hbel10.trans (hwp.mono hbel10.size)).drew
          have Hhkx := Lib.hid hkx; clear hkx; have Hhky := Lib.hid hky; clear hky; have Hhfin := Lib.hid hfin; clear hfin
          go_wp2_with fail
          refine Go.Canon.wp_region_text mixed (by kernel_rfl) ?_
          go_wp2_with fail
          refine Go.Canon.chk (by rfl) ?_
          go_wp2_with fail
          exact ⟨⟨i + 1, by omega, by simp, Hhfin.out⟩, by simp [intOf]; omega⟩
      · have he1 := bedges_calls (.inl (Hhtab1'.out.below hbel10 (by omega))) Hhs.out
        have hed2 := fun wz (hz : Below wr.heap.size wr wz) => bedges_calls (.inl ((Hhtab2.out.below hbel10 hle2).below hz (by omega))) Hhs'.out
        have hme := Hhme.out
        have hbi := Hhbi.out
        have hbi' := Hhbi'.out
        have hev := Hhev.out
        have hev' := Hhev'.out
        rw [hlen10.out] at hbi'
        obtain ⟨gA, hgA⟩ : ∃ gA, (bedges T).length = gA := ⟨_, rfl⟩
        obtain ⟨gB, hgB⟩ : ∃ gB, (bedges T').length = gB := ⟨_, rfl⟩
        rw [hgA] at hbi he1
        rw [hgB] at hbi' hed2
        obtain ⟨gd, hgd⟩ : ∃ gd : Nat, (gA : Int) - (gB : Int) = gd := ⟨gA - gB, by omega⟩
        have hge : 2 * (l.length : Int) ≤ (gd : Int) := by omega
        have hgm : (gd : Int) % 2 = 0 := by omega
        have hgA9 : gA ≤ 1000 := by omega
        have hgB9 : gB ≤ 1000 := by omega
        have hz0' : l.length = 0 → gd = 0 := fun h9 => by
          have hh := (Hhnil.out h9).1
          rw [hh] at hgB
          omega
        have hbf3 := hbel3.trans (hbel10.mono hbel3.size)
        clear hme hbi hbi' hev hev' hgA hgB
        have Hhe1 := Lib.hid he1; clear he1; have Hhed2 := Lib.hid hed2; clear hed2; have Hhz0' := Lib.hid hz0'; clear hz0'
        go_wp2_with fail
        refine Hhe1.out.mono ?_
        rintro e w4 ⟨⟨r, rfl, hown4⟩, hb4⟩
        obtain ⟨A8, cap8, rfl, hc8⟩ := own_form hown4
        have hz4 := hb4.size
        have hed2' := Hhed2.out w4 hb4
        have hbf4 := hbf3.trans (hb4.mono hbf3.size)
        have Hhown4 := Lib.hid hown4; clear hown4; have Hhed2' := Lib.hid hed2'; clear hed2'
        go_wp2_with fail
        refine Hhed2'.out.mono ?_
        rintro e w5 ⟨⟨r, rfl, hown5⟩, hb5⟩
        obtain ⟨A9, cap9, rfl, hc9⟩ := own_form hown5
        have hbf5 := hbf4.trans (hb5.mono hbf4.size)
        have hcr := ((hb3'.trans (hbel10.mono (show wc.heap.size ≤ w3.heap.size by omega))).trans (hb4.mono (show wc.heap.size ≤ wr.heap.size by omega))).trans (hb5.mono (show wc.heap.size ≤ w4.heap.size by omega))
        have c0f := (hcr.cell (p := ⟨w.heap.size, 0, none⟩) (show w.heap.size < wc.heap.size by omega)).trans c0c
        have c1f := (hcr.cell (p := ⟨w.heap.size, 1, none⟩) (show w.heap.size < wc.heap.size by omega)).trans c1c
        have z0f := (hcr.cell (p := ⟨g5, 0, none⟩) hgl).trans z0
        have z1f := (hcr.cell (p := ⟨g5, 1, none⟩) hgl).trans z1
        by_cases hl0 : l.length = 0
        · obtain ⟨hTT, hrr⟩ := Hhnil.out hl0
          have hgd0 := Hhz0'.out hl0
          subst hgd0
          have hsa := same20_calls (w := w5) (B := w5.heap.size) (Na := (rv : Int)) (Nb := (n : Int)) ((Hhx1.out.below keeps_tri hcr).keep keeps_tri (Below.refl _ _) hcr.size) ((HhTc.out.below keeps_tri hcr).keep keeps_tri (Below.refl _ _) hcr.size) (Nat.le_refl _) (by rw [hlen10.out]; omega)
          rw [decide_eq_true (show (rv : Int) = (n : Int) ∧ T' = T from ⟨by rw [hrr], hTT⟩), hlen10.out] at hsa
          have hl1' : (l.length : Int) = 0 := by omega
          have hl2' : ¬ (0 < (l.length : Int)) := by omega
          have Hhown5 := Lib.hid hown5; clear hown5; have Hhsa := Lib.hid hsa; clear hsa; have HhTT := Lib.hid hTT; clear hTT; have Hhrr := Lib.hid hrr; clear hrr
          go_wp2_with fail
          all_goals first | (exfalso; omega) | skip
          refine Hhsa.out.mono ?_
          rintro e w6 ⟨rfl, hb6⟩
          have hbf6 := hbf5.trans (hb6.mono hbf5.size)
          go_wp2_with fail
          go_ret
          exact ⟨rfl, hbf6⟩
        · have hl1' : 0 < (l.length : Int) := by omega
          have Hhown5 := Lib.hid hown5; clear hown5
          go_wp2_with fail
          all_goals first | (exfalso; omega) | skip
          go_ret
          exact ⟨rfl, hbf5⟩
end Go.Proofs.Ytdljcemnbbamcaa
