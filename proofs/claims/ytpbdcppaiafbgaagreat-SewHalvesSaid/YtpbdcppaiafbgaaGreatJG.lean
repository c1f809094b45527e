/- The law SewHalves, walked. -/
import Derived.Deep.Cut
import Derived.Deep.CutBlock
import Derived.Deep.DeepCutAuto
import Derived.Test.YtpbdcppaiafbgaaGreatIJ
import Derived.Test.YtpbdcppaiafbgaaGreatHS
import Derived.Test.YtpbdcppaiafbgaaGreatFM
namespace Go.Proofs.YtpbdcppaiafbgaaGreat
open Go Go.RowKit Go.Words Go.Mesh
/-- What stands behind the first call of Sew: its answer, with the surface laid in a variable. -/
def HLaid (w0 : World) (M : Nat) (X : List T3) (l : List P4) (s5 s6 s7 : Value) (wx : World) : Prop :=
  ∃ (g : Nat) (x0 x1 : Value) (c : Int), s5 = .pointer (some ⟨g, 0, none⟩) ∧ w0.heap.size ≤ g ∧ s7 = .int .i64 c ∧ Bk wx g 24 [x0, x1] ∧ Below w0.heap.size w0 wx ∧
    (c = 11 ∨ (c = 0 ∧ Surf (rnk (labP l) M : Nat) (sewT (labP l) X) ∧ x0 = .int .i64 (rnk (labP l) M : Nat) ∧ Sl 3 RTri wx wx.heap.size x1 (sewT (labP l) X) ∧ Sl 1 RInt wx wx.heap.size s6 (sewOf (labP l) M)))
theorem hend_laid {w' : World} {M : Nat} {X : List T3} {l : List P4} {x o : Value} {c : Int} (h : SewEnd w' (M : Nat) X l x o c) (hs : Surf (M : Nat) X) (hp : placedN (fun e => decide (e ∈ bedges X)) l = 0) : ∃ n0 A9 n9 c9, x = .agg #[.int .i64 n0, .slice A9 n9 c9] ∧ (c = 11 ∨ (c = 0 ∧ Surf (rnk (labP l) M : Nat) (sewT (labP l) X))) := by
  unfold SewEnd at h
  rw [Int.toNat_natCast] at h
  rcases h with ⟨h1, _⟩ | ⟨_, h1, h2, _⟩ | ⟨_, _, _, h1, h2, _⟩ | ⟨_, _, h3, h4, xs, h5, h6, _⟩
  · exact absurd hs h1
  · rw [hp] at h1; exact absurd h1 h2
  · exact ⟨_, _, _, _, h2, .inl h1⟩
  · obtain ⟨A9, c9, rfl, _⟩ := h6.form
    exact ⟨_, _, _, _, h5, .inr ⟨h4, h3⟩⟩
theorem hlaid_of {w0 w1 w' wx : World} {M : Nat} {X : List T3} {l : List P4} {x0 x1 o : Value} {c : Int} {g : Nat} (hx : c = 11 ∨ (c = 0 ∧ Surf (rnk (labP l) M : Nat) (sewT (labP l) X)))
    (hf : SewFar w1 w' (M : Nat) X l (.agg #[x0, x1]) o c) (hg : w0.heap.size ≤ g) (hk : Bk wx g 24 [x0, x1]) (hb : Below w0.heap.size w0 wx)
    (hwz : ∀ b, w1.heap.size ≤ b → b < w'.heap.size → wx.heap[b]? = w'.heap[b]?) : HLaid w0 M X l (.pointer (some ⟨g, 0, none⟩)) o (.int .i64 c) wx := by
  refine ⟨g, x0, x1, c, rfl, hg, rfl, hk, hb, ?_⟩
  rcases hx with h | ⟨h1, h2⟩
  · exact .inl h
  · obtain ⟨xs, e1, e2, e3⟩ := hf h1 wx hwz
    rw [Int.toNat_natCast] at e1 e3
    have e4 : x0 = .int .i64 (rnk (labP l) M : Nat) ∧ x1 = xs := by
      injection e1 with e1
      have := congrArg Array.toList e1
      simp at this
      exact this
    exact .inr ⟨h1, h2, e4.1, by rw [e4.2]; exact e2, e3⟩
theorem sewOf_at {L : Int → Int} {M n : Nat} (h : n < M) : (sewOf L M)[n]? = some (numL L (n : Int)) := by unfold sewOf; rw [List.getElem?_map, List.getElem?_range h]; rfl
theorem rest_step (L : Int → Int) {P : List P4} {k i : Nat} {p : P4} (hk : k ≤ i) (hi : P[i]? = some p) : restP L ((P.drop k).take (i + 1 - k)) = if metP (ofP L p) = true then restP L ((P.drop k).take (i - k)) else restP L ((P.drop k).take (i - k)) ++ [ofP L p] := by
  have h1 : (P.drop k)[i - k]? = some p := by rw [List.getElem?_drop, show k + (i - k) = i by omega]; exact hi
  obtain ⟨h2, h3⟩ := List.getElem?_eq_some_iff.1 h1
  rw [show i + 1 - k = (i - k) + 1 by omega, List.take_succ_eq_append_getElem h2, h3, restP_snoc]
theorem rest_len (L : Int → Int) (P : List P4) : (restP L P).length ≤ P.length := by
  unfold restP
  have := List.length_filter_le (fun p => !metP p) (P.map (ofP L))
  rwa [List.length_map] at this
theorem sewEnd_back {w' : World} {M : Nat} {N : Int} {Y T : List T3} {l : List P4} {x o : Value} {c : Int} (he : SewEnd w' (M : Nat) Y l x o c) (hs : Surf (M : Nat) Y) (hp : placedN (fun e => decide (e ∈ bedges Y)) l = 0) (hT : sewT (labP l) Y = T) (hN : ((rnk (labP l) M : Nat) : Int) = N) (hsT : Surf N T) :
    c = 0 ∧ ∃ xs, x = .agg #[.int .i64 N, xs] ∧ Sl 3 RTri w' w'.heap.size xs T ∧ ∃ os, o = os ∧ Sl 1 RInt w' w'.heap.size os (sewOf (labP l) M) := by
  unfold SewEnd at he
  rw [Int.toNat_natCast, hN, hT] at he
  rcases he with ⟨h1, _⟩ | ⟨_, h1, h2, _⟩ | ⟨_, _, h1, _⟩ | ⟨_, _, _, h1, xs, h2, h3, h4⟩
  · exact absurd hs h1
  · rw [hp] at h1; exact absurd h1 h2
  · exact absurd hsT h1
  · exact ⟨h1, xs, h2, h3, _, rfl, h4⟩
set_option maxRecDepth 40000 in
set_option maxHeartbeats 8000000 in
theorem sewhalves_law (sv : Value) (N : Int) (T : List T3) (v1 : Value) (l : List (Int × Int)) (m : Nat) (w : World) {B : Nat} (hB0 : B ≤ w.heap.size) (hT : Sl 3 RTri w B sv T) (hN : I64 N) (h1 : Sl 2 RPair w B v1 l ∧ ∀ e ∈ l, ok2 e) (hm : m < 256) :
    Calls Tryz.prog 18 #[.agg #[.int .i64 N, sv], v1, .int .u8 (m : Int)] w fun e w' => e = .returned (.bool true) ∧ Below w.heap.size w w' := by
  obtain ⟨hl, hok⟩ := h1
  obtain ⟨A, cap, rfl, hcap⟩ := hT.form
  obtain ⟨A2, cap2, rfl, hcap2⟩ := hl.form
  have hb0 := (Below.refl w.heap.size w).alloc (Nat.le_refl _) (.cells #[.int .i64 N, .slice A T.length cap] 24)
  have hk0 := Bk.new w 24 [.int .i64 N, .slice A T.length cap]
  have haw := awake20_calls (w.alloc (.cells #[.int .i64 N, .slice A T.length cap] 24))
  have hz0 : w.heap.size + 1 ≤ (w.alloc (.cells #[.int .i64 N, .slice A T.length cap] 24)).heap.size := by simp
  generalize hw0 : w.alloc (.cells #[.int .i64 N, .slice A T.length cap] 24) = w0 at *
  have HhT := Lib.hid hT; clear hT; have Hhl := Lib.hid hl; clear hl; have Hhok := Lib.hid hok; clear hok; have Hhaw := Lib.hid haw; clear haw; have Hhk0 := Lib.hid hk0; clear hk0
  go_enter Tryz.func18, Tryz.ntmps18
  go_wp2_with fail
  clear hw0
  refine Hhaw.out.mono ?_
  rintro e w1 ⟨rfl, hb1⟩
  have hz1 := hb1.size
  have hbel1 := hb0.trans (hb1.mono hb0.size)
  have hk1 := Hhk0.out.below hb1 (by omega)
  have c0 : w1.cell? ⟨w.heap.size, 0, none⟩ = some (.int .i64 N) := hk1.cell 0
  have c1 : w1.cell? ⟨w.heap.size, 1, none⟩ = some (.slice A T.length cap) := hk1.cell 1
  by_cases hs1 : 40 < (T.length : Int)
  · go_wp2_with fail
    all_goals first | (exfalso; omega) | skip
    go_ret
    exact ⟨rfl, hbel1⟩
  by_cases hs3 : 30 < (l.length : Int)
  · go_wp2_with fail
    all_goals first | (exfalso; omega) | skip
    go_ret
    exact ⟨rfl, hbel1⟩
  have hT1 := HhT.out.below keeps_tri (hbel1.mono hB0)
  have hl1 := Hhl.out.below keeps_pair (hbel1.mono hB0)
  have hal := along_calls (w := w1) (show B ≤ w1.heap.size by omega) hT1 hN hl1 Hhok.out (by omega)
  have HhT1 := Lib.hid hT1; clear hT1; have Hhl1 := Lib.hid hl1; clear hl1; have Hhk1 := Lib.hid hk1; clear hk1; have Hhal := Lib.hid hal; clear hal
  go_wp2_with fail
  all_goals first | (exfalso; omega) | skip
  refine Hhal.out.mono ?_
  rintro e w3 ⟨⟨r, c, rfl, hend⟩, hb3⟩
  have hz3 := hb3.size
  have hbel3 := hbel1.trans (hb3.mono hbel1.size)
  have hk3 := Hhk1.out.below hb3 (by omega)
  have hT3 := HhT1.out.below keeps_tri (hb3.mono (show B ≤ w1.heap.size by omega))
  have hl3 := Hhl1.out.below keeps_pair (hb3.mono (show B ≤ w1.heap.size by omega))
  by_cases hc : c = 0
  case neg =>
    obtain rfl := hend.2.1 hc
    have hcb : (c != 0) = true := bne_iff_ne.2 hc
    have hbf := hbel3.alloc hbel3.size (.cells #[.int .i64 0, .slice none 0 0] 24)
    have Hhend := Lib.hid hend; clear hend; have Hhk3 := Lib.hid hk3; clear hk3; have Hhbf := Lib.hid hbf; clear hbf
    go_wp2_with fail
    go_ret
    exact ⟨rfl, Hhbf.out⟩
  subst hc
  obtain ⟨xv, wv, pv, Es, rfl, hcut, hX, hO, hP⟩ := hend.ok
  have hXl := hcut.numb.len
  have hpl := hcut.len
  have hle := hcut.undo.le
  have hsX := hcut.cut
  have hfew := hcut.few
  have hs := hcut.surf
  clear hend
  obtain ⟨A4, cap4, rfl, hcap4⟩ := hO.form
  obtain ⟨A5, cap5, rfl, hcap5⟩ := hP.form
  obtain ⟨A3, cap3, rfl, hcap3⟩ := hX.form
  obtain ⟨k, hk⟩ : ∃ k, m % (l.length + 1) = k := ⟨_, rfl⟩
  have hkl : k ≤ l.length := by have := Nat.mod_lt m (show 0 < l.length + 1 by omega); omega
  have hkm : (m : Int) % ((l.length : Int) + 1) = (k : Int) := by rw [← hk]; exact (Int.natCast_emod m (l.length + 1)).symm
  have hne0 : ((l.length : Int) + 1 == 0) = false := by rw [beq_eq_false_iff_ne]; omega
  clear hk
  have hasks := fun i hi => hcut.asks (i := i) hi
  have hplaced := hcut.placed k
  have hokT := cut_okP hcut k
  have hhalf := hcut.halves k
  have hset0 : ∀ (X : List T3) (O : List Int) (P : List P4), X = newX N T (l.map nm) → O = newO N T (l.map nm) → P = pairsL N T l Es → ∀ i, i < P.length → ∃ n1 n2 n3 n4 : Nat, P[i]? = some (((n1 : Int), (n2 : Int)), ((n3 : Int), (n4 : Int))) ∧ n1 < O.length ∧ n2 < O.length ∧ n3 < O.length ∧ n4 < O.length := fun X O P h1 h2 h3 i hi => by
    subst h1; subst h2; subst h3
    obtain ⟨_, _, _, _, n1, n2, n3, n4, hp, _, _, _, _, _, _, _, _, o1, o2, o3, o4⟩ := hasks i hi
    exact ⟨n1, n2, n3, n4, by rw [List.getElem?_eq_getElem hi, hp], (List.getElem?_eq_some_iff.1 o1).1, (List.getElem?_eq_some_iff.1 o2).1, (List.getElem?_eq_some_iff.1 o3).1, (List.getElem?_eq_some_iff.1 o4).1⟩
  have hset := hset0 _ _ _ rfl rfl rfl
  clear hasks hset0
  generalize pairsL N T l Es = P at *
  generalize newX N T (l.map nm) = X at *
  generalize newO N T (l.map nm) = O at *
  rw [hXl] at hX hcap3 ⊢
  rw [hpl] at hP hcap5 ⊢
  have hb4 := (Below.refl w3.heap.size w3).alloc (Nat.le_refl _) (.cells #[.int .i64 (O.length : Nat), .slice A3 T.length cap3] 24)
  have hk4 := Bk.new w3 24 [.int .i64 (O.length : Nat), .slice A3 T.length cap3]
  have hk34 := hk3.alloc (.cells #[.int .i64 (O.length : Nat), .slice A3 T.length cap3] 24)
  have hbel4 := hbel3.trans (hb4.mono hbel3.size)
  have hz4 : w3.heap.size + 1 ≤ (w3.alloc (.cells #[.int .i64 (O.length : Nat), .slice A3 T.length cap3] 24)).heap.size := by simp
  have hX4 := hX.below keeps_tri hb4
  have hO4 := hO.below keeps_int hb4
  have hP4 := hP.below keeps_4 hb4
  have hT4 := hT3.below keeps_tri (hb4.mono (show B ≤ w3.heap.size by omega))
  have hl4 := hl3.below keeps_pair (hb4.mono (show B ≤ w3.heap.size by omega))
  obtain ⟨w4, hw4⟩ : ∃ w4, w3.alloc (.cells #[.int .i64 (O.length : Nat), .slice A3 T.length cap3] 24) = w4 := ⟨_, rfl⟩
  rw [hw4] at hb4 hk4 hk34 hbel4 hz4 hX4 hO4 hP4 hT4 hl4
  have e0 : w4.cell? ⟨w3.heap.size, 0, none⟩ = some (.int .i64 (O.length : Nat)) := hk4.cell 0
  have e1 : w4.cell? ⟨w3.heap.size, 1, none⟩ = some (.slice A3 T.length cap3) := hk4.cell 1
  have s0 : w4.cell? ⟨w.heap.size, 0, none⟩ = some (.int .i64 N) := hk34.cell 0
  have s1 : w4.cell? ⟨w.heap.size, 1, none⟩ = some (.slice A T.length cap) := hk34.cell 1
  have hX5 := fun wz (hz : Below w4.heap.size w4 wz) => (hX4.below keeps_tri (hz.mono (show w3.heap.size ≤ w4.heap.size by omega))).keep keeps_tri (Below.refl _ _) (show w3.heap.size ≤ wz.heap.size by have := hz.size; omega)
  have hP5 := fun wz (hz : Below w4.heap.size w4 wz) => ((hP4.take hkl).below keeps_4 (hz.mono (show w3.heap.size ≤ w4.heap.size by omega))).keep keeps_4 (Below.refl _ _) (show w3.heap.size ≤ wz.heap.size by have := hz.size; omega)
  have hsw := fun wz (hz : Below w4.heap.size w4 wz) => sew_calls2 (w := wz) (B := wz.heap.size) (N := (O.length : Nat)) (hX5 wz hz) (hP5 wz hz) (Nat.le_refl _) (I64.nat (by omega)) (by rw [List.length_take]; omega) hokT
  have hls : w3.heap.size < w4.heap.size := by omega
  have Hhk3 := Lib.hid hk3; clear hk3; have Hhk4 := Lib.hid hk4; clear hk4; have Hhk34 := Lib.hid hk34; clear hk34; have HhX := Lib.hid hX; clear hX; have HhO := Lib.hid hO; clear hO; have HhP := Lib.hid hP; clear hP; have HhX4 := Lib.hid hX4; clear hX4; have HhO4 := Lib.hid hO4; clear hO4; have HhP4 := Lib.hid hP4; clear hP4; have HhT4 := Lib.hid hT4; clear hT4; have Hhl4 := Lib.hid hl4; clear hl4; have HhT3 := Lib.hid hT3; clear hT3; have Hhl3 := Lib.hid hl3; clear hl3; have Hhcut := Lib.hid hcut; clear hcut; have HhsX := Lib.hid hsX; clear hsX; have Hhs := Lib.hid hs; clear hs; have HhX5 := Lib.hid hX5; clear hX5; have HhP5 := Lib.hid hP5; clear hP5; have Hhsw := Lib.hid hsw; clear hsw; have Hhset := Lib.hid hset; clear hset; have Hhplaced := Lib.hid hplaced; clear hplaced; have HhokT := Lib.hid hokT; clear hokT; have Hhhalf := Lib.hid hhalf; clear hhalf
  go_upto_region 9 with fail
  all_goals first | (exfalso; omega) | skip
  clear hw4
  go_cut [11, 12, 13, 14] (fun s4 s5 s6 s7 wx => s4 = .int .i64 (k : Int) ∧ HLaid w4 O.length X (P.take k) s5 s6 s7 wx)
  case first =>
    go_wp2_with fail
    refine Go.Canon.wp_region_tree [0] (fun b => b = w3.heap.size) (.seg [0,1,2,3] (.alt 4 (.seg [5,6,7,8] (.alt 9 (.alt 10 (.seg [11,12] .fin) .no) .no)) (.alt 9 (.alt 4 (.seg [5,6,7,8] (.alt 10 (.seg [11,12] .fin) .no)) .no) .no))) mixed (by kernel_rfl) ?_
    refine Go.Canon.tr_seg ?_
    simp only [List.map_cons, List.map_nil, List.getD_cons_zero, List.getD_cons_succ]
    go_wp2_with fail
    refine Go.Canon.tr_to (Go.Canon.tr_alt ?_ (Go.Canon.tr_one ?_))
    · simp only [List.getD_cons_zero, List.getD_cons_succ]
      have hs9 := Hhsw.out w4.drew (Below.refl _ w4).drew
      have Hhs9 := Lib.hid hs9; clear hs9
      go_wp2_with fail
      refine Hhs9.out.mono ?_
      rintro e w5 ⟨⟨x, o, c, rfl, hend, hfar⟩, hb5⟩
      obtain ⟨n0, A9, n9, c9, rfl, hor⟩ := hend_laid hend HhsX.out Hhplaced.out
      have hb5' := (Below.refl w4.heap.size w4).drew.trans hb5
      have hz5 := hb5'.size
      clear hend
      have Hhor := Lib.hid hor; clear hor; have Hhfar := Lib.hid hfar; clear hfar
      go_wp2_with fail
      refine Go.Canon.tr_end (fun b hb => by subst hb; exact hb5'.block _ hls) (Go.Canon.tr_seg ?_)
      simp only [List.map_cons, List.map_nil, List.getD_cons_zero, List.getD_cons_succ]
      go_wp2_with fail
      refine Go.Canon.tr_to (Go.Canon.tr_one ?_)
      simp only [List.getD_cons_zero, List.getD_cons_succ]
      go_wp2_with fail
      have hb6 := (Below.refl w5.heap.size w5).alloc (Nat.le_refl _) (.cells #[.int .i64 0, .slice none 0 0] 24)
      have hb6' := hb5'.trans (hb6.mono (by omega))
      refine Go.Canon.tr_end (fun b hb => by subst hb; exact hb6'.block _ hls) (Go.Canon.tr_one ?_)
      simp only [List.getD_cons_zero, List.getD_cons_succ]
      go_wp2_with fail
      have hks := Bk.new w5 24 [.int .i64 n0, .slice A9 n9 c9]
      have hb7 := (Below.refl w5.heap.size w5).alloc (Nat.le_refl _) (.cells #[.int .i64 n0, .slice A9 n9 c9] 24)
      have hb7' := hb5'.trans (hb7.mono (by omega))
      refine Go.Canon.tr_end (fun b hb => by subst hb; exact hb7'.block _ hls) (Go.Canon.tr_seg ?_)
      simp only [List.map_cons, List.map_nil, List.getD_cons_zero, List.getD_cons_succ]
      go_wp2_with fail
      refine Go.Canon.tr_to (Go.Canon.tr_fin (by rfl) (List.forall_mem_cons.2 ⟨.inl ⟨_, rfl, rfl, by rw [World.cell?_drew, e0]; rfl⟩, fun _ h => by cases h⟩) ?_)
      go_wp2_with fail
      go_meet
      exact ⟨rfl, hlaid_of Hhor.out Hhfar.out (by omega) hks hb7' (fun b _ h2 => hb7.block b h2)⟩
    · simp only [List.getD_cons_zero, List.getD_cons_succ]
      go_wp2_with fail
      have hkz := (Bk.new w4 24 [.int .i64 0, .slice none 0 0]).drew
      have hb5' := ((Below.refl w4.heap.size w4).alloc (Nat.le_refl _) (.cells #[.int .i64 0, .slice none 0 0] 24)).drew
      have hz5 : w4.heap.size < (w4.alloc (.cells #[.int .i64 0, .slice none 0 0] 24)).drew.heap.size := by simp
      generalize hw5 : (w4.alloc (.cells #[.int .i64 0, .slice none 0 0] 24)).drew = w5 at *
      clear hw5
      refine Go.Canon.tr_end (fun b hb => by subst hb; exact hb5'.block _ hls) (Go.Canon.tr_one ?_)
      simp only [List.getD_cons_zero, List.getD_cons_succ]
      have hs9 := Hhsw.out w5 hb5'
      have Hhs9 := Lib.hid hs9; clear hs9
      go_wp2_with fail
      refine Hhs9.out.mono ?_
      rintro e w6 ⟨⟨x, o, c, rfl, hend, hfar⟩, hb6⟩
      obtain ⟨n0, A9, n9, c9, rfl, hor⟩ := hend_laid hend HhsX.out Hhplaced.out
      have hb6' := hb5'.trans (hb6.mono hb5'.size)
      have hz6 := hb6.size
      have hkz6 := hkz.below hb6 hkz.lt
      clear hend
      have Hhor := Lib.hid hor; clear hor; have Hhfar := Lib.hid hfar; clear hfar
      go_wp2_with fail
      refine Go.Canon.tr_end (fun b hb => by subst hb; exact hb6'.block _ hls) (Go.Canon.tr_seg ?_)
      simp only [List.map_cons, List.map_nil, List.getD_cons_zero, List.getD_cons_succ]
      go_wp2_with fail
      have y0 : w6.cell? ⟨w4.heap.size, 0, none⟩ = some (.int .i64 0) := hkz6.cell 0
      have y1 : w6.cell? ⟨w4.heap.size, 1, none⟩ = some (.slice none 0 0) := hkz6.cell 1
      have f1 := hkz6.frozen
      have hks := (hkz6.set 0 (.int .i64 n0)).set 1 (.slice A9 n9 c9)
      have hbs := (hb6'.setCell (p := ⟨w4.heap.size, 0, none⟩) (Nat.le_refl _) (.int .i64 n0)).setCell (p := ⟨w4.heap.size, 1, none⟩) (Nat.le_refl _) (.slice A9 n9 c9)
      have Hhkz := Lib.hid hkz; clear hkz; have Hhkz6 := Lib.hid hkz6; clear hkz6; have Hhks := Lib.hid hks; clear hks; have Hhbs := Lib.hid hbs; clear hbs
      refine Go.Canon.tr_to (Go.Canon.tr_one ?_)
      simp only [List.getD_cons_zero, List.getD_cons_succ]
      go_wp2_with fail
      refine Go.Canon.tr_end (fun b hb => by subst hb; exact Hhbs.out.block _ hls) (Go.Canon.tr_seg ?_)
      simp only [List.map_cons, List.map_nil, List.getD_cons_zero, List.getD_cons_succ]
      go_wp2_with fail
      refine Go.Canon.tr_to (Go.Canon.tr_fin (by rfl) (List.forall_mem_cons.2 ⟨.inl ⟨_, rfl, rfl, by rw [World.cell?_drew, e0]; rfl⟩, fun _ h => by cases h⟩) ?_)
      go_wp2_with fail
      go_meet
      exact ⟨rfl, hlaid_of Hhor.out Hhfar.out (Nat.le_refl _) Hhks.out Hhbs.out (fun b h1 _ => by
        rw [Below.heap_setCell _ ⟨w4.heap.size, 1, none⟩ _ b (by show b ≠ w4.heap.size; omega), Below.heap_setCell _ ⟨w4.heap.size, 0, none⟩ _ b (by show b ≠ w4.heap.size; omega)])⟩
  case rest =>
    obtain ⟨rfl, g5, x0, x1, c, rfl, hg5, rfl, hkx, hbx, hor⟩ := hcut
    have hbelc := hbel4.trans (hbx.mono hbel4.size)
    rcases hor with rfl | ⟨rfl, hsY, rfl, hx1, ho⟩
    · have Hhkx := Lib.hid hkx; clear hkx
      go_wp2_with fail
      go_ret
      exact ⟨rfl, hbelc⟩
    obtain ⟨hp2, hT2, hN2⟩ := Hhhalf.out hsY
    have hRl := fun j => rest_len (labP (P.take k)) ((P.drop k).take j)
    generalize labP (P.take k) = G at *
    have hYl : (sewT G X).length = T.length := by unfold sewT; rw [List.length_map]; exact hXl
    have hOf : (sewOf G O.length).length = O.length := by unfold sewOf; rw [List.length_map, List.length_range]
    have hrn := rnk_le G O.length
    obtain ⟨A8, cap8, rfl, hcap8⟩ := hx1.form
    obtain ⟨A7, cap7, rfl, hcap7⟩ := ho.form
    rw [hYl] at hx1 hcap8 hkx
    rw [hOf] at ho hcap7
    try rw [hYl]
    try rw [hOf]
    obtain ⟨Y, hYe⟩ : ∃ Y, sewT G X = Y := ⟨_, rfl⟩
    obtain ⟨rv, hrv⟩ : ∃ rv, rnk G O.length = rv := ⟨_, rfl⟩
    rw [hYe] at hsY hx1 hp2 hT2 hYl
    rw [hrv] at hsY hkx hN2 hrn
    have hzc := hbx.size
    have z0 : wc.cell? ⟨g5, 0, none⟩ = some (.int .i64 (rv : Nat)) := hkx.cell 0
    have z1 : wc.cell? ⟨g5, 1, none⟩ = some (.slice A8 T.length cap8) := hkx.cell 1
    have u0 := (hbx.cell (p := ⟨w.heap.size, 0, none⟩) (by show w.heap.size < _; omega)).trans s0
    have u1 := (hbx.cell (p := ⟨w.heap.size, 1, none⟩) (by show w.heap.size < _; omega)).trans s1
    have hPc := HhP4.out.below keeps_4 (hbx.mono (show w3.heap.size ≤ w4.heap.size by omega))
    have hTc := HhT4.out.below keeps_tri (hbx.mono (show B ≤ w4.heap.size by omega))
    have hgl5 := hkx.lt
    have hRl9 : ∀ j, (restP G ((P.drop k).take j)).length ≤ 30 := fun j => by
      have h9 := hRl j
      rw [List.length_take, List.length_drop, hpl] at h9
      omega
    clear hYe hrv hRl
    have Hhkx := Lib.hid hkx; clear hkx; have Hhx1 := Lib.hid hx1; clear hx1; have Hho := Lib.hid ho; clear ho; have HhPc := Lib.hid hPc; clear hPc; have HhTc := Lib.hid hTc; clear hTc; have Hhp2 := Lib.hid hp2; clear hp2; have HhT2 := Lib.hid hT2; clear hT2; have HhN2 := Lib.hid hN2; clear hN2; have HhsY := Lib.hid hsY; clear hsY
    go_wp2_with fail
    go_loopw [15, 16] (fun rw9 iv wr => ∃ i : Nat, k ≤ i ∧ i ≤ l.length ∧ iv = .int .i64 (i : Int) ∧ wr.ownsRow wc.heap.size 41 4 rw9 (restP G ((P.drop k).take (i - k))).length (quad (restP G ((P.drop k).take (i - k)))) ∧ Below wc.heap.size wc wr) (fun _ iv _ => l.length - (intOf iv).toNat)
    case atStart => exact ⟨k, Nat.le_refl _, hkl, rfl, by rw [Nat.sub_self, List.take_zero]; exact World.ownsRow_nil _ _ _ _, Below.refl _ _⟩
    case round =>
      obtain ⟨i, hki, hi, rfl, hown, hbr⟩ := hrel
      obtain ⟨wq, hwq⟩ : ∃ wq, wq = wr := ⟨_, rfl⟩
      subst hwq
      have hzr := hbr.size
      by_cases hil : i < l.length
      · obtain ⟨n1, n2, n3, n4, hpi, m1, m2, m3, m4⟩ := Hhset.out i (by rw [hpl]; exact hil)
        obtain ⟨bp, op, rfl, hbp, x1, x2, x3, x4⟩ := (HhPc.out.below keeps_4 (hbr.mono (by omega))).p4_at hpi
        simp only [] at x1 x2 x3 x4
        have hst := rest_step G hki hpi
        have hr1 := hRl9 (i - k)
        generalize restP G ((P.drop k).take (i - k)) = R at *
        have hO := Hho.out.below keeps_int hbr
        obtain ⟨bo, oo, rfl, hbo, o1⟩ := hO.int_at (k := n1) (by rw [hOf]; exact m1)
        obtain ⟨_, _, e9, _, o2⟩ := hO.int_at (k := n2) (by rw [hOf]; exact m2)
        injection e9 with e9; injection e9 with e9 e7 _; subst e9; subst e7
        obtain ⟨_, _, e9, _, o3⟩ := hO.int_at (k := n3) (by rw [hOf]; exact m3)
        injection e9 with e9; injection e9 with e9 e7 _; subst e9; subst e7
        obtain ⟨_, _, e9, _, o4⟩ := hO.int_at (k := n4) (by rw [hOf]; exact m4)
        injection e9 with e9; injection e9 with e9 e7 _; subst e9; subst e7
        rw [(List.getElem?_eq_some_iff.1 (sewOf_at (L := G) m1)).2] at o1
        rw [(List.getElem?_eq_some_iff.1 (sewOf_at (L := G) m2)).2] at o2
        rw [(List.getElem?_eq_some_iff.1 (sewOf_at (L := G) m3)).2] at o3
        rw [(List.getElem?_eq_some_iff.1 (sewOf_at (L := G) m4)).2] at o4
        have hofp : ofP G (((n1 : Int), (n2 : Int)), ((n3 : Int), (n4 : Int))) = ((numL G n1, numL G n2), (numL G n3, numL G n4)) := rfl
        rw [hofp] at hst
        clear hofp
        generalize numL G (n1 : Int) = y1 at *
        generalize numL G (n2 : Int) = y2 at *
        generalize numL G (n3 : Int) = y3 at *
        generalize numL G (n4 : Int) = y4 at *
        have hmet : metP ((y1, y2), (y3, y4)) = decide (y1 = y4 ∧ y2 = y3) := rfl
        rw [hmet] at hst
        clear hmet
        have hbpw : bp < wq.heap.size := by omega
        have hbow : bo < wq.heap.size := by omega
        obtain ⟨wa, hwa⟩ : ∃ wa, wq.alloc (.cells #[.int .i64 (n1 : Int), .int .i64 (n2 : Int), .int .i64 (n3 : Int), .int .i64 (n4 : Int)] 41) = wa := ⟨_, rfl⟩
        have hba : Below wq.heap.size wq wa := by rw [← hwa]; exact (Below.refl wq.heap.size wq).alloc (Nat.le_refl _) _
        have hka : Bk wa wq.heap.size 41 [.int .i64 (n1 : Int), .int .i64 (n2 : Int), .int .i64 (n3 : Int), .int .i64 (n4 : Int)] := by rw [← hwa]; exact Bk.new wq _ _
        have hza : wq.heap.size + 1 ≤ wa.heap.size := by rw [← hwa]; simp
        have t1 : wa.cell? ⟨wq.heap.size, 0, none⟩ = some (.int .i64 (n1 : Int)) := hka.cell 0
        have t2 : wa.cell? ⟨wq.heap.size, 1, none⟩ = some (.int .i64 (n2 : Int)) := hka.cell 1
        have t3 : wa.cell? ⟨wq.heap.size, 2, none⟩ = some (.int .i64 (n3 : Int)) := hka.cell 2
        have t4 : wa.cell? ⟨wq.heap.size, 3, none⟩ = some (.int .i64 (n4 : Int)) := hka.cell 3
        have v1 := (hba.cell (p := ⟨bo, oo + n1, none⟩) hbow).trans o1
        have v2 := (hba.cell (p := ⟨bo, oo + n2, none⟩) hbow).trans o2
        have v3 := (hba.cell (p := ⟨bo, oo + n3, none⟩) hbow).trans o3
        have v4 := (hba.cell (p := ⟨bo, oo + n4, none⟩) hbow).trans o4
        have hqa : wq.heap.size < wa.heap.size := by omega
        have hboa : bo < wa.heap.size := by omega
        have hbca := hbr.trans (hba.mono (by omega))
        have kb1 : ∀ X : Obj, Go.Canon.KeepU (fun b => b < wa.heap.size) wa.drew (wa.drew.alloc X) := fun X => keep_below (B := wa.heap.size) ((Below.refl wa.heap.size wa.drew).alloc (Nat.le_refl _) X)
        have kb2 : ∀ X Y : Obj, Go.Canon.KeepU (fun b => b < wa.heap.size) wa.drew ((wa.drew.alloc X).alloc Y) := fun X Y => keep_below (B := wa.heap.size) (((Below.refl wa.heap.size wa.drew).alloc (Nat.le_refl _) X).alloc (by simp) Y)
        have hown1 := own_below hown hba (Nat.le_refl _)
        obtain ⟨Ar, capr, rfl, hcr⟩ := own_form hown
        have Hhown := Lib.hid hown; clear hown; have Hhown1 := Lib.hid hown1; clear hown1; have Hhst := Lib.hid hst; clear hst; have HhO := Lib.hid hO; clear hO; have Hhka := Lib.hid hka; clear hka; have Hhpi := Lib.hid hpi; clear hpi
        go_wp2_with fail
        clear hwa
        refine Go.Canon.wp_region_tree [3, 5, 9, 11, 16, 18, 22, 24] (fun b => b < wa.heap.size) (.seg [0,1,2,3,4,5,6,7,8,9,10,11,12,13,14,15,16,17,18,19,20,21,22,23,24,25] (.alt 26 (.alt 27 (.alt 28 (.alt 29 .fin .no) .no) .no) (.alt 27 (.alt 26 (.alt 28 (.alt 29 .fin .no) .no) .no) .no))) mixed (by kernel_rfl) ?_
        refine Go.Canon.tr_seg ?_
        simp only [List.map_cons, List.map_nil, List.getD_cons_zero, List.getD_cons_succ]
        go_wp2_with fail
        refine Go.Canon.tr_to (Go.Canon.tr_alt ?_ (Go.Canon.tr_alt ?_ Go.Canon.tr_no))
        · simp only [List.getD_cons_zero, List.getD_cons_succ]
          go_wp2_with fail
          refine Go.Canon.tr_end (kb1 _) (Go.Canon.tr_one ?_)
          simp only [List.getD_cons_zero, List.getD_cons_succ]
          go_wp2_with fail
          refine Go.Canon.tr_end (kb2 _ _) (Go.Canon.tr_one ?_)
          simp only [List.getD_cons_zero, List.getD_cons_succ]
          go_wp2_with fail
          refine Go.Canon.tr_end (kb2 _ _) (Go.Canon.tr_one ?_)
          simp only [List.getD_cons_zero, List.getD_cons_succ]
          go_wp2_with fail
          refine Go.Canon.tr_end (kb2 _ _) (Go.Canon.tr_fin (by rfl) (List.forall_mem_cons.2 ⟨.inl ⟨_, rfl, hqa, by rw [World.cell?_drew, t1]; rfl⟩, List.forall_mem_cons.2 ⟨.inl ⟨_, rfl, hboa, by rw [World.cell?_drew, v1]; rfl⟩, List.forall_mem_cons.2 ⟨.inl ⟨_, rfl, hqa, by rw [World.cell?_drew, t2]; rfl⟩, List.forall_mem_cons.2 ⟨.inl ⟨_, rfl, hboa, by rw [World.cell?_drew, v2]; rfl⟩, List.forall_mem_cons.2 ⟨.inl ⟨_, rfl, hqa, by rw [World.cell?_drew, t3]; rfl⟩, List.forall_mem_cons.2 ⟨.inl ⟨_, rfl, hboa, by rw [World.cell?_drew, v3]; rfl⟩, List.forall_mem_cons.2 ⟨.inl ⟨_, rfl, hqa, by rw [World.cell?_drew, t4]; rfl⟩, List.forall_mem_cons.2 ⟨.inl ⟨_, rfl, hboa, by rw [World.cell?_drew, v4]; rfl⟩, fun _ h => by cases h⟩⟩⟩⟩⟩⟩⟩⟩) ?_)
          obtain ⟨wp, hwpe⟩ : ∃ wp, wp = ((wa.alloc (.cells #[.int .i64 y1, .int .i64 y2] 39)).alloc (.cells #[.int .i64 y3, .int .i64 y4] 39)).drew := ⟨_, rfl⟩
          have hwp : Below wa.heap.size wa wp := by rw [hwpe]; exact (((Below.refl wa.heap.size wa).alloc (Nat.le_refl _) _).alloc (by simp) _).drew
          have hkx : Bk wp (wa.heap.size) 39 [.int .i64 y1, .int .i64 y2] := by rw [hwpe]; first | exact ((Bk.new wa _ _).alloc _).drew | exact (Bk.new' _ _ (by simp)).drew
          have hky : Bk wp (wa.heap.size + 1) 39 [.int .i64 y3, .int .i64 y4] := by rw [hwpe]; first | exact ((Bk.new wa _ _).alloc _).drew | exact (Bk.new' _ _ (by simp)).drew
          rw [← hwpe]
          clear hwpe
          have g1 : wp.cell? ⟨wa.heap.size, 0, none⟩ = some (.int .i64 y1) := hkx.cell 0
          have g2 : wp.cell? ⟨wa.heap.size, 1, none⟩ = some (.int .i64 y2) := hkx.cell 1
          have g3 : wp.cell? ⟨wa.heap.size + 1, 0, none⟩ = some (.int .i64 y3) := hky.cell 0
          have g4 : wp.cell? ⟨wa.heap.size + 1, 1, none⟩ = some (.int .i64 y4) := hky.cell 1
          have hbcp := hbca.trans (hwp.mono (by omega))
          have hzp := hwp.size
          have hownp := own_below Hhown1.out hwp (Nat.le_refl _)
          have hst := Hhst.out
          by_cases hm1 : y1 = y4
          · have hq1 : (y1 == y4) = true := beq_iff_eq.2 hm1
            by_cases hm2 : y2 = y3
            · have hq2 : (y2 == y3) = true := beq_iff_eq.2 hm2
              rw [decide_eq_true ⟨hm1, hm2⟩, if_pos rfl] at hst
              have Hhkx := Lib.hid hkx; clear hkx; have Hhky := Lib.hid hky; clear hky; have Hhownp := Lib.hid hownp; clear hownp; have Hhst := Lib.hid hst; clear hst; have Hhm1 := Lib.hid hm1; clear hm1; have Hhm2 := Lib.hid hm2; clear hm2
              go_wp2_with fail
              exact ⟨⟨i + 1, by omega, by omega, by simp, by rw [Hhst.out]; exact Hhownp.out, hbcp⟩, by simp [intOf]; omega⟩
            · have hq2 : (y2 == y3) = false := beq_eq_false_iff_ne.2 hm2
              rw [decide_eq_false (fun h => hm2 h.2), if_neg (by simp)] at hst
              have Hhkx := Lib.hid hkx; clear hkx; have Hhky := Lib.hid hky; clear hky; have Hhownp := Lib.hid hownp; clear hownp; have Hhst := Lib.hid hst; clear hst; have Hhm1 := Lib.hid hm1; clear hm1
              go_wp2_with (at_builtin; refine append_block _ rfl (.tmp 112) (.tmp 116) 29 rfl wc.heap.size infoPr Tryz.underlying29 rfl (by decide) _ R.length (quad R) rfl (Hhownp.out.alloc _) wp.heap.size [.int .i64 y1, .int .i64 y2, .int .i64 y3, .int .i64 y4] rfl (Bk.new _ _ _) rfl (by simp [Value.oneCell']) (by omega) (by omega) (by simp; omega) ?_)
              intro v' wE hownE hbE hgE _
              obtain ⟨gv, cv, rfl⟩ := ownsRow_succ hownE
              have hbF := (hbcp.alloc (by omega) (.cells #[.int .i64 y1, .int .i64 y2, .int .i64 y3, .int .i64 y4] 41)).trans hbE
              have hownF : wE.ownsRow wc.heap.size 41 4 (.slice (some ⟨gv, 0, none⟩) (R.length + 1) cv) (restP G ((P.drop k).take (i + 1 - k))).length (quad (restP G ((P.drop k).take (i + 1 - k)))) := by
                rw [Hhst.out, List.length_append, quad_snoc]
                exact hownE
              have HhownE := Lib.hid hownE; clear hownE; have HhbE := Lib.hid hbE; clear hbE; have HhgE := Lib.hid hgE; clear hgE; have HhbF := Lib.hid hbF; clear hbF; have HhownF := Lib.hid hownF; clear hownF
              go_wp2_with fail
              exact ⟨⟨i + 1, by omega, by omega, by simp, HhownF.out, HhbF.out⟩, by simp [intOf]; omega⟩
          · have hq1 : (y1 == y4) = false := beq_eq_false_iff_ne.2 hm1
            rw [decide_eq_false (fun h => hm1 h.1), if_neg (by simp)] at hst
            have Hhkx := Lib.hid hkx; clear hkx; have Hhky := Lib.hid hky; clear hky; have Hhownp := Lib.hid hownp; clear hownp; have Hhst := Lib.hid hst; clear hst; have Hhm1 := Lib.hid hm1; clear hm1
            go_wp2_with (at_builtin; refine append_block _ rfl (.tmp 112) (.tmp 116) 29 rfl wc.heap.size infoPr Tryz.underlying29 rfl (by decide) _ R.length (quad R) rfl (Hhownp.out.alloc _) wp.heap.size [.int .i64 y1, .int .i64 y2, .int .i64 y3, .int .i64 y4] rfl (Bk.new _ _ _) rfl (by simp [Value.oneCell']) (by omega) (by omega) (by simp; omega) ?_)
            intro v' wE hownE hbE hgE _
            obtain ⟨gv, cv, rfl⟩ := ownsRow_succ hownE
            have hbF := (hbcp.alloc (by omega) (.cells #[.int .i64 y1, .int .i64 y2, .int .i64 y3, .int .i64 y4] 41)).trans hbE
            have hownF : wE.ownsRow wc.heap.size 41 4 (.slice (some ⟨gv, 0, none⟩) (R.length + 1) cv) (restP G ((P.drop k).take (i + 1 - k))).length (quad (restP G ((P.drop k).take (i + 1 - k)))) := by
              rw [Hhst.out, List.length_append, quad_snoc]
              exact hownE
            have HhownE := Lib.hid hownE; clear hownE; have HhbE := Lib.hid hbE; clear hbE; have HhgE := Lib.hid hgE; clear hgE; have HhbF := Lib.hid hbF; clear hbF; have HhownF := Lib.hid hownF; clear hownF
            go_wp2_with fail
            exact ⟨⟨i + 1, by omega, by omega, by simp, HhownF.out, HhbF.out⟩, by simp [intOf]; omega⟩
        · simp only [List.getD_cons_zero, List.getD_cons_succ]
          go_wp2_with fail
          refine Go.Canon.tr_end (kb1 _) (Go.Canon.tr_one ?_)
          simp only [List.getD_cons_zero, List.getD_cons_succ]
          go_wp2_with fail
          refine Go.Canon.tr_end (kb2 _ _) (Go.Canon.tr_one ?_)
          simp only [List.getD_cons_zero, List.getD_cons_succ]
          go_wp2_with fail
          refine Go.Canon.tr_end (kb2 _ _) (Go.Canon.tr_one ?_)
          simp only [List.getD_cons_zero, List.getD_cons_succ]
          go_wp2_with fail
          refine Go.Canon.tr_end (kb2 _ _) (Go.Canon.tr_fin (by rfl) (List.forall_mem_cons.2 ⟨.inl ⟨_, rfl, hqa, by rw [World.cell?_drew, t1]; rfl⟩, List.forall_mem_cons.2 ⟨.inl ⟨_, rfl, hboa, by rw [World.cell?_drew, v1]; rfl⟩, List.forall_mem_cons.2 ⟨.inl ⟨_, rfl, hqa, by rw [World.cell?_drew, t2]; rfl⟩, List.forall_mem_cons.2 ⟨.inl ⟨_, rfl, hboa, by rw [World.cell?_drew, v2]; rfl⟩, List.forall_mem_cons.2 ⟨.inl ⟨_, rfl, hqa, by rw [World.cell?_drew, t3]; rfl⟩, List.forall_mem_cons.2 ⟨.inl ⟨_, rfl, hboa, by rw [World.cell?_drew, v3]; rfl⟩, List.forall_mem_cons.2 ⟨.inl ⟨_, rfl, hqa, by rw [World.cell?_drew, t4]; rfl⟩, List.forall_mem_cons.2 ⟨.inl ⟨_, rfl, hboa, by rw [World.cell?_drew, v4]; rfl⟩, fun _ h => by cases h⟩⟩⟩⟩⟩⟩⟩⟩) ?_)
          obtain ⟨wp, hwpe⟩ : ∃ wp, wp = ((wa.alloc (.cells #[.int .i64 y3, .int .i64 y4] 39)).alloc (.cells #[.int .i64 y1, .int .i64 y2] 39)).drew := ⟨_, rfl⟩
          have hwp : Below wa.heap.size wa wp := by rw [hwpe]; exact (((Below.refl wa.heap.size wa).alloc (Nat.le_refl _) _).alloc (by simp) _).drew
          have hkx : Bk wp (wa.heap.size + 1) 39 [.int .i64 y1, .int .i64 y2] := by rw [hwpe]; first | exact ((Bk.new wa _ _).alloc _).drew | exact (Bk.new' _ _ (by simp)).drew
          have hky : Bk wp (wa.heap.size) 39 [.int .i64 y3, .int .i64 y4] := by rw [hwpe]; first | exact ((Bk.new wa _ _).alloc _).drew | exact (Bk.new' _ _ (by simp)).drew
          rw [← hwpe]
          clear hwpe
          have g1 : wp.cell? ⟨wa.heap.size + 1, 0, none⟩ = some (.int .i64 y1) := hkx.cell 0
          have g2 : wp.cell? ⟨wa.heap.size + 1, 1, none⟩ = some (.int .i64 y2) := hkx.cell 1
          have g3 : wp.cell? ⟨wa.heap.size, 0, none⟩ = some (.int .i64 y3) := hky.cell 0
          have g4 : wp.cell? ⟨wa.heap.size, 1, none⟩ = some (.int .i64 y4) := hky.cell 1
          have hbcp := hbca.trans (hwp.mono (by omega))
          have hzp := hwp.size
          have hownp := own_below Hhown1.out hwp (Nat.le_refl _)
          have hst := Hhst.out
          by_cases hm1 : y1 = y4
          · have hq1 : (y1 == y4) = true := beq_iff_eq.2 hm1
            by_cases hm2 : y2 = y3
            · have hq2 : (y2 == y3) = true := beq_iff_eq.2 hm2
              rw [decide_eq_true ⟨hm1, hm2⟩, if_pos rfl] at hst
              have Hhkx := Lib.hid hkx; clear hkx; have Hhky := Lib.hid hky; clear hky; have Hhownp := Lib.hid hownp; clear hownp; have Hhst := Lib.hid hst; clear hst; have Hhm1 := Lib.hid hm1; clear hm1; have Hhm2 := Lib.hid hm2; clear hm2
              go_wp2_with fail
              exact ⟨⟨i + 1, by omega, by omega, by simp, by rw [Hhst.out]; exact Hhownp.out, hbcp⟩, by simp [intOf]; omega⟩
            · have hq2 : (y2 == y3) = false := beq_eq_false_iff_ne.2 hm2
              rw [decide_eq_false (fun h => hm2 h.2), if_neg (by simp)] at hst
              have Hhkx := Lib.hid hkx; clear hkx; have Hhky := Lib.hid hky; clear hky; have Hhownp := Lib.hid hownp; clear hownp; have Hhst := Lib.hid hst; clear hst; have Hhm1 := Lib.hid hm1; clear hm1
              go_wp2_with (at_builtin; refine append_block _ rfl (.tmp 112) (.tmp 116) 29 rfl wc.heap.size infoPr Tryz.underlying29 rfl (by decide) _ R.length (quad R) rfl (Hhownp.out.alloc _) wp.heap.size [.int .i64 y1, .int .i64 y2, .int .i64 y3, .int .i64 y4] rfl (Bk.new _ _ _) rfl (by simp [Value.oneCell']) (by omega) (by omega) (by simp; omega) ?_)
              intro v' wE hownE hbE hgE _
              obtain ⟨gv, cv, rfl⟩ := ownsRow_succ hownE
              have hbF := (hbcp.alloc (by omega) (.cells #[.int .i64 y1, .int .i64 y2, .int .i64 y3, .int .i64 y4] 41)).trans hbE
              have hownF : wE.ownsRow wc.heap.size 41 4 (.slice (some ⟨gv, 0, none⟩) (R.length + 1) cv) (restP G ((P.drop k).take (i + 1 - k))).length (quad (restP G ((P.drop k).take (i + 1 - k)))) := by
                rw [Hhst.out, List.length_append, quad_snoc]
                exact hownE
              have HhownE := Lib.hid hownE; clear hownE; have HhbE := Lib.hid hbE; clear hbE; have HhgE := Lib.hid hgE; clear hgE; have HhbF := Lib.hid hbF; clear hbF; have HhownF := Lib.hid hownF; clear hownF
              go_wp2_with fail
              exact ⟨⟨i + 1, by omega, by omega, by simp, HhownF.out, HhbF.out⟩, by simp [intOf]; omega⟩
          · have hq1 : (y1 == y4) = false := beq_eq_false_iff_ne.2 hm1
            rw [decide_eq_false (fun h => hm1 h.1), if_neg (by simp)] at hst
            have Hhkx := Lib.hid hkx; clear hkx; have Hhky := Lib.hid hky; clear hky; have Hhownp := Lib.hid hownp; clear hownp; have Hhst := Lib.hid hst; clear hst; have Hhm1 := Lib.hid hm1; clear hm1
            go_wp2_with (at_builtin; refine append_block _ rfl (.tmp 112) (.tmp 116) 29 rfl wc.heap.size infoPr Tryz.underlying29 rfl (by decide) _ R.length (quad R) rfl (Hhownp.out.alloc _) wp.heap.size [.int .i64 y1, .int .i64 y2, .int .i64 y3, .int .i64 y4] rfl (Bk.new _ _ _) rfl (by simp [Value.oneCell']) (by omega) (by omega) (by simp; omega) ?_)
            intro v' wE hownE hbE hgE _
            obtain ⟨gv, cv, rfl⟩ := ownsRow_succ hownE
            have hbF := (hbcp.alloc (by omega) (.cells #[.int .i64 y1, .int .i64 y2, .int .i64 y3, .int .i64 y4] 41)).trans hbE
            have hownF : wE.ownsRow wc.heap.size 41 4 (.slice (some ⟨gv, 0, none⟩) (R.length + 1) cv) (restP G ((P.drop k).take (i + 1 - k))).length (quad (restP G ((P.drop k).take (i + 1 - k)))) := by
              rw [Hhst.out, List.length_append, quad_snoc]
              exact hownE
            have HhownE := Lib.hid hownE; clear hownE; have HhbE := Lib.hid hbE; clear hbE; have HhgE := Lib.hid hgE; clear hgE; have HhbF := Lib.hid hbF; clear hbF; have HhownF := Lib.hid hownF; clear hownF
            go_wp2_with fail
            exact ⟨⟨i + 1, by omega, by omega, by simp, HhownF.out, HhbF.out⟩, by simp [intOf]; omega⟩
      · obtain rfl : i = l.length := by omega
        rw [show (P.drop k).take (l.length - k) = P.drop k from List.take_of_length_le (by rw [List.length_drop, hpl]; exact Nat.le_refl _)] at hown
        have hp2 := Hhp2.out
        have hT2 := HhT2.out
        have hN2 := HhN2.out
        have hRl9' : (restP G (P.drop k)).length ≤ 30 := by
          have h9 := hRl9 (l.length - k)
          rwa [show (P.drop k).take (l.length - k) = P.drop k from List.take_of_length_le (by rw [List.length_drop, hpl]; exact Nat.le_refl _)] at h9
        generalize restP G (P.drop k) = R at *
        obtain ⟨Ar, capr, rfl, hcr⟩ := own_form hown
        have hslR : Sl 4 R4 wq wq.heap.size (.slice Ar R.length capr) R := Sl.of_own hown fun i a hi => quad_at R i a hi
        have hokR : ∀ e ∈ edgs R, ok2 e := fun e he => ok_bedges HhsY.out (of_decide_eq_true ((placed_zero hp2).1 e he))
        have hslY : Sl 3 RTri wq wq.heap.size (.slice A8 T.length cap8) Y := (Hhx1.out.below keeps_tri hbr).keep keeps_tri (Below.refl _ _) hzr
        have hsw2 := sew_calls (w := wq) (B := wq.heap.size) (N := (rv : Nat)) hslY hslR (Nat.le_refl _) (I64.nat (by omega)) (by omega) hokR
        have q0 := (hbr.cell (p := ⟨g5, 0, none⟩) hgl5).trans z0
        have q1 := (hbr.cell (p := ⟨g5, 1, none⟩) hgl5).trans z1
        have hbelr := hbelc.trans (hbr.mono hbelc.size)
        have Hhown := Lib.hid hown; clear hown; have HhslR := Lib.hid hslR; clear hslR; have HhokR := Lib.hid hokR; clear hokR; have HhslY := Lib.hid hslY; clear hslY; have Hhsw2 := Lib.hid hsw2; clear hsw2; have Hhp2 := Lib.hid hp2; clear hp2; have HhT2 := Lib.hid hT2; clear hT2; have HhN2 := Lib.hid hN2; clear hN2
        go_wp2_with fail
        refine Hhsw2.out.mono ?_
        rintro e w5 ⟨⟨x, o, c, rfl, hend⟩, hb5⟩
        obtain ⟨rfl, xs, rfl, hZ, os, rfl, _⟩ := sewEnd_back hend HhsY.out Hhp2.out HhT2.out HhN2.out Hhs.out
        clear hend
        obtain ⟨A6, cap6, rfl, hcap6⟩ := hZ.form
        have hz5 := hb5.size
        have hbel5 := hbelr.trans (hb5.mono hbelr.size)
        have hbc5 := hbr.trans (hb5.mono hzr)
        have hb6 := (Below.refl w5.heap.size w5).alloc (Nat.le_refl _) (.cells #[.int .i64 N, .slice A6 T.length cap6] 24)
        have hbel6 := hbel5.trans (hb6.mono hbel5.size)
        have hbc6 := hbc5.trans (hb6.mono (by omega))
        have hZ6 := (hZ.below keeps_tri hb6).keep keeps_tri (Below.refl _ _) hb6.size
        have hT6 := (HhTc.out.below keeps_tri (hbc6.mono (show B ≤ wc.heap.size by omega))).keep keeps_tri (Below.refl _ _) (show B ≤ (w5.alloc (.cells #[.int .i64 N, .slice A6 T.length cap6] 24)).heap.size by have := hbc6.size; omega)
        have p0 := (hbc6.cell (p := ⟨w.heap.size, 0, none⟩) (by show w.heap.size < _; omega)).trans u0
        have p1 := (hbc6.cell (p := ⟨w.heap.size, 1, none⟩) (by show w.heap.size < _; omega)).trans u1
        have r0 : (w5.alloc (.cells #[.int .i64 N, .slice A6 T.length cap6] 24)).cell? ⟨w5.heap.size, 0, none⟩ = some (.int .i64 N) := (Bk.new w5 24 [.int .i64 N, .slice A6 T.length cap6]).cell 0
        have r1 : (w5.alloc (.cells #[.int .i64 N, .slice A6 T.length cap6] 24)).cell? ⟨w5.heap.size, 1, none⟩ = some (.slice A6 T.length cap6) := (Bk.new w5 24 [.int .i64 N, .slice A6 T.length cap6]).cell 1
        generalize hw6 : w5.alloc (.cells #[.int .i64 N, .slice A6 T.length cap6] 24) = w6 at *
        have hsa := same20_calls (Na := N) (Nb := N) hZ6 hT6 (Nat.le_refl _) (by omega)
        rw [decide_eq_true (show N = N ∧ T = T from ⟨rfl, rfl⟩)] at hsa
        have HhZ := Lib.hid hZ; clear hZ; have HhZ6 := Lib.hid hZ6; clear hZ6; have HhT6 := Lib.hid hT6; clear hT6; have Hhsa := Lib.hid hsa; clear hsa
        go_wp2_with fail
        clear hw6
        refine Hhsa.out.mono ?_
        rintro e w7 ⟨rfl, hb7⟩
        have hbel7 := hbel6.trans (hb7.mono hbel6.size)
        go_wp2_with fail
        go_ret
        exact ⟨rfl, hbel7⟩
end Go.Proofs.YtpbdcppaiafbgaaGreat
