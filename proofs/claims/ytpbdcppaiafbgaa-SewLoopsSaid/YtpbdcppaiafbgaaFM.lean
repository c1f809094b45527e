/- Walk: law20's awake. -/
import Derived.Test.YtpbdcppaiafbgaaFL
namespace Go.Mesh
def ex20 : List T3 := [(0, 1, 2), (2, 1, 3)]
def lo20 : List Int := [0, 2, 3, 1]
def pr20 : List P4 := [((2, 0), (0, 1)), ((3, 2), (1, 3))]
def se20 : List P4 := [((2, 0), (0, 1))]
theorem surf_ex20 : Surf 4 ex20 := surf_check (by decide +kernel)
theorem exp20 : exP lo20 (([(0, 3, 2)] : List T3).flatMap exR) = pr20 := by decide +kernel
theorem flp20 : (flP (([(0, 3, 2)] : List T3).flatMap exR)).Nodup := by decide +kernel
theorem okr20 : ∀ r ∈ ([(0, 3, 2)] : List T3), okR (lo20.length : Int) r := fun r hr => by
  rw [List.mem_singleton.1 hr]
  unfold okR lo20
  simp
theorem plc20 : placedN (hasL lo20) pr20 = 0 := by decide +kernel
theorem rns20 : runsL (sortP (pr20.map (plP lo20)) lo20.length) = [(0, 3, 2)] := by decide +kernel
theorem plb20 : placedN (fun e => decide (e ∈ bedges ex20)) se20 = 0 := by decide +kernel
end Go.Mesh
namespace Go.Proofs.Ytpbdcppaiafbgaa
open Go Go.RowKit Go.Words Go.Mesh

theorem rgt20 : rightB lo20 = true := by decide +kernel
theorem swt20 : sewT (labP se20) ex20 = [(0, 1, 1), (1, 1, 2)] := by decide +kernel
theorem bad20 {N : Int} : ¬ Surf N [(0, 1, 1), (1, 1, 2)] := fun h => h.loop 1 (by decide) (by decide)
theorem pairs20 {w w' : World} {v : Value} {c : Int} (h : PairsEnd w w' lo20 [(0, 3, 2)] v c) : c = 0 ∧ w'.ownsRow w.heap.size 49 4 v pr20.length (flat4 pr20) := by
  rcases h with ⟨h1, _⟩ | ⟨_, ⟨r, hr, h1⟩, _⟩ | ⟨_, _, h1, _⟩ | ⟨_, _, _, h1, h2⟩
  · rw [rgt20] at h1; cases h1
  · exact absurd (okr20 r hr) h1
  · exact absurd flp20 h1
  · rw [exp20] at h2; exact ⟨h1, h2⟩
theorem runs20 {w w' : World} {v : Value} {c : Int} (h : RunsEnd w w' lo20 pr20 v c) : c = 0 ∧ w'.ownsRow w.heap.size 37 3 v 1 (flat3 [(0, 3, 2)]) := by
  rcases h with ⟨h1, _⟩ | ⟨_, h1, h2, _⟩ | ⟨_, _, h1, h2⟩
  · rw [rgt20] at h1; cases h1
  · rw [plc20] at h1; exact absurd h1 h2
  · rw [rns20] at h2; exact ⟨h1, h2⟩
theorem sew20a {w' : World} {x o : Value} {c : Int} (h : SewEnd w' 4 ex20 se20 x o c) : c = 11 ∧ x = .agg #[.int .i64 0, .slice none 0 0] ∧ o = .slice none 0 0 := by
  rcases h with ⟨h1, _⟩ | ⟨_, h1, h2, _⟩ | ⟨_, _, _, h1, h2, h3⟩ | ⟨_, _, h1, _⟩
  · exact absurd surf_ex20 h1
  · rw [plb20] at h1; exact absurd h1 h2
  · exact ⟨h1, h2, h3⟩
  · rw [swt20] at h1; exact absurd h1 bad20
theorem labP_nil : labP [] = id := rfl
theorem sewT_id {N : Int} {T : List T3} (hs : Surf N T) : sewT id T = T := by
  unfold sewT
  conv => rhs; rw [← List.map_id T]
  apply List.map_congr_left
  intro t ht
  have := surf_tri hs t ht
  rw [numL_id this.1.1, numL_id this.2.1.1, numL_id this.2.2.1]
  rfl
theorem sew_none {w' : World} {N : Int} {T : List T3} {x o : Value} {c : Int} (hs : Surf N T) (h : SewEnd w' N T [] x o c) : c = 0 ∧ ∃ xs, x = .agg #[.int .i64 N, xs] ∧ Sl 3 RTri w' w'.heap.size xs T ∧ Sl 1 RInt w' w'.heap.size o ((List.range N.toNat).map fun v : Nat => (v : Int)) := by
  have hp : placedN (fun e => decide (e ∈ bedges T)) [] = 0 := rfl
  have hN : ((rnk (labP []) N.toNat : Nat) : Int) = N := by
    rw [labP_nil, rnk_id]
    have := hs.n0
    omega
  have hT : sewT (labP []) T = T := by rw [labP_nil]; exact sewT_id hs
  rcases h with ⟨h1, _⟩ | ⟨_, h1, h2, _⟩ | ⟨_, _, h1, _⟩ | ⟨_, _, _, h1, xs, h2, h3, h4⟩
  · exact absurd hs h1
  · rw [hp] at h1; exact absurd h1 h2
  · rw [hN, hT] at h1; exact absurd hs h1
  · rw [hN] at h2
    rw [hT] at h3
    refine ⟨h1, xs, h2, h3, ?_⟩
    have : sewOf (labP []) N.toNat = (List.range N.toNat).map fun v : Nat => (v : Int) := by
      unfold sewOf
      apply List.map_congr_left
      intro v _
      rw [labP_nil, numL_id (by omega)]
    rwa [this] at h4
set_option maxRecDepth 40000 in
set_option maxHeartbeats 4000000 in
theorem awake20_calls (w : World) : Calls Try.prog 4 #[] w fun e w' => e = .returned (.bool true) ∧ Below w.heap.size w w' := by
  have hI : ∀ n : Nat, n ≤ 10 → I64 (n : Int) := fun n hn => I64.nat (by omega)
  have hok20 : ∀ e ∈ edgs pr20, ok2 e := by
    have : (edgs pr20).all (fun e => decide (-9223372036854775808 ≤ e.1 ∧ e.1 ≤ 9223372036854775807) && decide (-9223372036854775808 ≤ e.2 ∧ e.2 ≤ 9223372036854775807)) = true := by decide +kernel
    intro e he
    have := List.all_eq_true.1 this e he
    simpa [ok2, I64] using this
  have hok21 : ∀ e ∈ edgs se20, ok2 e := by
    have : (edgs se20).all (fun e => decide (-9223372036854775808 ≤ e.1 ∧ e.1 ≤ 9223372036854775807) && decide (-9223372036854775808 ≤ e.2 ∧ e.2 ≤ 9223372036854775807)) = true := by decide +kernel
    intro e he
    have := List.all_eq_true.1 this e he
    simpa [ok2, I64] using this
  have hokL : ∀ x ∈ lo20, I64 x := by
    have : lo20.all (fun x => decide (-9223372036854775808 ≤ x ∧ x ≤ 9223372036854775807)) = true := by decide +kernel
    intro e he
    have := List.all_eq_true.1 this e he
    simpa [I64] using this
  go_enter Try.func4, Try.ntmps4
  go_wp2_with fail
  obtain ⟨w1, hw1⟩ : ∃ w1, w1 = ((((w.alloc (.cells #[.int .i64 0, .int .i64 1, .int .i64 2, .int .i64 2, .int .i64 1, .int .i64 3] 43)).alloc (.cells #[.int .i64 4, .slice (some ⟨w.heap.size, 0, none⟩) 2 2] 24)).alloc (.cells #[.int .i64 0, .int .i64 2, .int .i64 3, .int .i64 1] 3)).alloc (.cells #[.int .i64 0, .int .i64 3, .int .i64 2] 37)) := ⟨_, rfl⟩
  have hb1 : Below w.heap.size w w1 := by rw [hw1]; exact ((((Below.refl _ w).alloc (Nat.le_refl _) _).alloc (by simp) _).alloc (by simp; omega) _).alloc (by simp; omega) _
  have kT : Bk w1 w.heap.size 43 (triVals ex20) := by rw [hw1]; exact ((((Bk.new w 43 (triVals ex20)).alloc _).alloc _).alloc _)
  have kS : Bk w1 (w.heap.size + 1) 24 [.int .i64 4, .slice (some ⟨w.heap.size, 0, none⟩) 2 2] := by rw [hw1]; exact ((Bk.new' _ _ (by simp)).alloc _).alloc _
  have kL : Bk w1 (w.heap.size + 1 + 1) 3 (lo20.map (Value.int .i64)) := by rw [hw1]; exact (Bk.new' 3 (lo20.map (Value.int .i64)) (by simp)).alloc _
  have kR : Bk w1 (w.heap.size + 1 + 1 + 1) 37 (flat3 [(0, 3, 2)]) := by rw [hw1]; exact Bk.new' 37 (flat3 [(0, 3, 2)]) (by simp)
  have hz1 : w.heap.size + 4 ≤ w1.heap.size := by rw [hw1]; simp
  rw [← hw1]
  clear hw1
  have hpc := spairs_calls (sl_zv kL) (block_tris kR (cap := 1) (by decide)) (Nat.le_refl _) (by decide) (by decide) (fun r hr => by rw [List.mem_singleton.1 hr]; exact ⟨hI 0 (by omega), hI 3 (by omega), hI 2 (by omega)⟩)
  change Calls _ _ #[.slice (some ⟨w.heap.size + 1 + 1, 0, none⟩) 4 4, .slice (some ⟨w.heap.size + 1 + 1 + 1, 0, none⟩) 1 1] _ _ at hpc
  have HkT := Lib.hid kT; clear kT; have HkS := Lib.hid kS; clear kS; have HkL := Lib.hid kL; clear kL; have HkR := Lib.hid kR; clear kR; have Hhpc := Lib.hid hpc; clear hpc; have Hhok20 := Lib.hid hok20; clear hok20; have Hhok21 := Lib.hid hok21; clear hok21; have HhokL := Lib.hid hokL; clear hokL; have HhI := Lib.hid hI; clear hI
  refine Hhpc.out.mono ?_
  rintro e w2 ⟨⟨v, c, rfl, hend⟩, hb2⟩
  obtain ⟨rfl, hown⟩ := pairs20 hend
  have hown : w2.ownsRow w1.heap.size 49 4 v 2 (flat4 pr20) := hown
  obtain ⟨A, cap, rfl, hcap⟩ := own_form hown
  have hz2 := hb2.size
  have hbel2 := hb1.trans (hb2.mono hb1.size)
  have kT2 := HkT.out.below hb2 HkT.out.lt
  have kS2 := HkS.out.below hb2 HkS.out.lt
  clear hend
  have Hhown := Lib.hid hown; clear hown; have HkT2 := Lib.hid kT2; clear kT2; have HkS2 := Lib.hid kS2; clear kS2
  go_wp2_with fail
  obtain ⟨w3, hw3⟩ : ∃ w3, w3 = w2.alloc (.cells #[.int .i64 0, .int .i64 2, .int .i64 3, .int .i64 1] 3) := ⟨_, rfl⟩
  have hb3 : Below w2.heap.size w2 w3 := by rw [hw3]; exact (Below.refl _ w2).alloc (Nat.le_refl _) _
  have kL3 : Bk w3 w2.heap.size 3 (lo20.map (Value.int .i64)) := by rw [hw3]; exact Bk.new w2 3 (lo20.map (Value.int .i64))
  rw [← hw3]
  clear hw3
  have hz3 := hb3.size
  have hown3 := own_below Hhown.out hb3 (Nat.le_refl _)
  have hsl3 : Sl 4 R4 w3 w3.heap.size (.slice A 2 cap) pr20 := sl_own_4 (l := pr20) hown3
  have hrc := runs_calls (sl_zv kL3) hsl3 (Nat.le_refl _) (by decide) (by decide) Hhok20.out HhokL.out
  change Calls _ _ #[.slice (some ⟨w2.heap.size, 0, none⟩) 4 4, .slice A 2 cap] _ _ at hrc
  have kT3 := HkT2.out.below hb3 HkT2.out.lt
  have kS3 := HkS2.out.below hb3 HkS2.out.lt
  have hbel3 := hbel2.trans (hb3.mono hbel2.size)
  have Hhown3 := Lib.hid hown3; clear hown3; have Hhsl3 := Lib.hid hsl3; clear hsl3; have HkL3 := Lib.hid kL3; clear kL3; have HkT3 := Lib.hid kT3; clear kT3; have HkS3 := Lib.hid kS3; clear kS3; have Hhrc := Lib.hid hrc; clear hrc
  refine Hhrc.out.mono ?_
  rintro e w4 ⟨⟨v, c, rfl, hend⟩, hb4⟩
  obtain ⟨rfl, hownr⟩ := runs20 hend
  obtain ⟨g5, cap5, rfl⟩ := ownsRow_succ hownr
  clear hend
  have hz4 := hb4.size
  have kT4 := HkT3.out.below hb4 HkT3.out.lt
  have kS4 := HkS3.out.below hb4 HkS3.out.lt
  have hbel4 := hbel3.trans (hb4.mono hbel3.size)
  obtain ⟨r0, _, _, hgl⟩ := own_cellN (i := 0) hownr rfl
  obtain ⟨r1, _, _, _⟩ := own_cellN (i := 1) hownr rfl
  obtain ⟨r2, _, _, _⟩ := own_cellN (i := 2) hownr rfl
  have s0 : w4.cell? ⟨w.heap.size + 1, 0, none⟩ = some (.int .i64 4) := kS4.cell 0
  have s1 : w4.cell? ⟨w.heap.size + 1, 1, none⟩ = some (.slice (some ⟨w.heap.size, 0, none⟩) 2 2) := kS4.cell 1
  have Hhownr := Lib.hid hownr; clear hownr; have HkT4 := Lib.hid kT4; clear kT4; have HkS4 := Lib.hid kS4; clear kS4
  go_wp2_with fail
  obtain ⟨w5, hw5⟩ : ∃ w5, w5 = w4.alloc (.cells #[.int .i64 2, .int .i64 0, .int .i64 0, .int .i64 1] 49) := ⟨_, rfl⟩
  have hb5 : Below w4.heap.size w4 w5 := by rw [hw5]; exact (Below.refl _ w4).alloc (Nat.le_refl _) _
  have kP : Bk w5 w4.heap.size 49 (flat4 se20) := by rw [hw5]; exact Bk.new w4 49 (flat4 se20)
  rw [← hw5]
  clear hw5
  have hz5 := hb5.size
  have kT5 := HkT4.out.below hb5 HkT4.out.lt
  have kS5 := HkS4.out.below hb5 HkS4.out.lt
  have hbel5 := hbel4.trans (hb5.mono hbel4.size)
  have hslP : Sl 4 R4 w5 w5.heap.size (.slice (some ⟨w4.heap.size, 0, none⟩) 1 1) se20 := Sl.of_block (l := se20) kP (Nat.le_refl _) fun i a hi => ⟨by rw [flat4_len]; have := (List.getElem?_eq_some_iff.1 hi).1; omega, flat4_at se20 i a hi⟩
  have hslT : Sl 3 RTri w5 w5.heap.size (.slice (some ⟨w.heap.size, 0, none⟩) 2 2) ex20 := sl_tris kT5 (by decide)
  have hsc := sew_calls hslT hslP (Nat.le_refl _) (N := 4) (HhI.out 4 (by omega)) (by decide) Hhok21.out
  clear kP
  have HkT5 := Lib.hid kT5; clear kT5; have HkS5 := Lib.hid kS5; clear kS5; have HhslP := Lib.hid hslP; clear hslP; have HhslT := Lib.hid hslT; clear hslT; have Hhsc := Lib.hid hsc; clear hsc
  refine Hhsc.out.mono ?_
  rintro e w6 ⟨⟨x, o, c, rfl, hend⟩, hb6⟩
  obtain ⟨rfl, rfl, rfl⟩ := sew20a hend
  clear hend
  have hz6 := hb6.size
  have kT6 := HkT5.out.below hb6 HkT5.out.lt
  have kS6 := HkS5.out.below hb6 HkS5.out.lt
  have hbel6 := hbel5.trans (hb6.mono hbel5.size)
  have t0 : w6.cell? ⟨w.heap.size + 1, 0, none⟩ = some (.int .i64 4) := kS6.cell 0
  have t1 : w6.cell? ⟨w.heap.size + 1, 1, none⟩ = some (.slice (some ⟨w.heap.size, 0, none⟩) 2 2) := kS6.cell 1
  have hls6 := kS6.lt
  have HkT6 := Lib.hid kT6; clear kT6; have HkS6 := Lib.hid kS6; clear kS6
  go_wp2_with fail
  obtain ⟨w7, hw7⟩ : ∃ w7, w7 = w6.alloc (.cells #[.int .i64 0, .slice none 0 0] 24) := ⟨_, rfl⟩
  have hb7 : Below w6.heap.size w6 w7 := by rw [hw7]; exact (Below.refl _ w6).alloc (Nat.le_refl _) _
  rw [← hw7]
  clear hw7
  have hz7 := hb7.size
  have kT7 := HkT6.out.below hb7 HkT6.out.lt
  have kS7 := HkS6.out.below hb7 HkS6.out.lt
  have hbel7 := hbel6.trans (hb7.mono hbel6.size)
  have hslT7 : Sl 3 RTri w7 w7.heap.size (.slice (some ⟨w.heap.size, 0, none⟩) 2 2) ex20 := sl_tris kT7 (by decide)
  have hsc7 := sew_calls (l := []) hslT7 (Sl.nil _ _) (Nat.le_refl _) (N := 4) (HhI.out 4 (by omega)) (by decide) (fun e he => by cases he)
  have HkT7 := Lib.hid kT7; clear kT7; have HkS7 := Lib.hid kS7; clear kS7; have HhslT7 := Lib.hid hslT7; clear hslT7; have Hhsc7 := Lib.hid hsc7; clear hsc7
  refine Hhsc7.out.mono ?_
  rintro e w8 ⟨⟨x, o, c, rfl, hend⟩, hb8⟩
  obtain ⟨rfl, xs, rfl, hx, ho⟩ := sew_none surf_ex20 hend
  clear hend
  have hz8 := hb8.size
  have kT8 := HkT7.out.below hb8 HkT7.out.lt
  have kS8 := HkS7.out.below hb8 HkS7.out.lt
  have hbel8 := hbel7.trans (hb8.mono hbel7.size)
  obtain ⟨A9, cap9, rfl, hc9⟩ := hx.form
  obtain ⟨A8, cap8, rfl, hc8⟩ := ho.form
  obtain ⟨w9, hw9⟩ : ∃ w9, w9 = w8.alloc (.cells #[.int .i64 4, .slice A9 ex20.length cap9] 24) := ⟨_, rfl⟩
  have hb9 : Below w8.heap.size w8 w9 := by rw [hw9]; exact (Below.refl _ w8).alloc (Nat.le_refl _) _
  have kX9 : Bk w9 w8.heap.size 24 [.int .i64 4, .slice A9 ex20.length cap9] := by rw [hw9]; exact Bk.new w8 _ _
  have hz9 := hb9.size
  have kT9 := kT8.below hb9 kT8.lt
  have kS9 := kS8.below hb9 kS8.lt
  have hx9 := hx.below keeps_tri hb9
  have ho9 := ho.below keeps_int hb9
  have hbel9 := hbel8.trans (hb9.mono hbel8.size)
  have v0 : w9.cell? ⟨w8.heap.size, 0, none⟩ = some (.int .i64 4) := kX9.cell 0
  have v1 : w9.cell? ⟨w8.heap.size, 1, none⟩ = some (.slice A9 ex20.length cap9) := kX9.cell 1
  have u0 : w9.cell? ⟨w.heap.size + 1, 0, none⟩ = some (.int .i64 4) := kS9.cell 0
  have u1 : w9.cell? ⟨w.heap.size + 1, 1, none⟩ = some (.slice (some ⟨w.heap.size, 0, none⟩) 2 2) := kS9.cell 1
  have h49 : Below w4.heap.size w4 w9 := (((hb5.trans (hb6.mono hz5)).trans (hb7.mono (by omega))).trans (hb8.mono (by omega))).trans (hb9.mono (by omega))
  have q0 := (h49.cell (p := ⟨g5, 0, none⟩) hgl).trans r0
  have q1 := (h49.cell (p := ⟨g5, 1, none⟩) hgl).trans r1
  have q2 := (h49.cell (p := ⟨g5, 2, none⟩) hgl).trans r2
  have hsa := same20_calls (Na := 4) (Nb := 4) (hx9.keep keeps_tri (Below.refl _ _) hz9) (sl_tris kT9 (cap := 2) (by decide)) (Nat.le_refl _) (by decide)
  rw [decide_eq_true (show (4 : Int) = 4 ∧ ex20 = ex20 from ⟨rfl, rfl⟩)] at hsa
  change Calls _ _ #[.agg #[.int .i64 4, .slice A9 ex20.length cap9], .agg #[.int .i64 4, .slice (some ⟨w.heap.size, 0, none⟩) 2 2]] _ _ at hsa
  subst hw9
  have hg0 : ∀ W, Sem.run Try.prog (Op.equalIn 10000 37 (.agg #[.int .i64 0, .int .i64 3, .int .i64 2]) (.agg #[.int .i64 0, .int .i64 3, .int .i64 2])) W = .ok true W := fun _ => by kernel_rfl
  have hg1 : ∀ W, Sem.run Try.prog (eqGuard BinOp.eql 37 (Operand.tmp 68) (Operand.tmp 69) (.agg #[.int .i64 0, .int .i64 3, .int .i64 2]) (.agg #[.int .i64 0, .int .i64 3, .int .i64 2])) W = .ok () W := fun _ => by kernel_rfl
  have HkT8 := Lib.hid kT8; clear kT8; have HkS8 := Lib.hid kS8; clear kS8; have Hhx := Lib.hid hx; clear hx; have Hho := Lib.hid ho; clear ho; have HkX9 := Lib.hid kX9; clear kX9; have HkT9 := Lib.hid kT9; clear kT9; have HkS9 := Lib.hid kS9; clear kS9; have Hhx9 := Lib.hid hx9; clear hx9; have Hho9 := Lib.hid ho9; clear ho9; have Hhsa := Lib.hid hsa; clear hsa
  go_wp2_with fail
  refine Hhsa.out.mono ?_
  rintro e w10 ⟨rfl, hb10⟩
  have hz10 := hb10.size
  have hbel10 := hbel9.trans (hb10.mono hbel9.size)
  have ho10 := Hho9.out.below keeps_int (hb10.mono hz9)
  have hb11 := (Below.refl w10.heap.size w10).alloc (Nat.le_refl _) (.cells #[.int .i64 0, .int .i64 1, .int .i64 2, .int .i64 3] 3)
  have kI := Bk.new w10 3 (([0, 1, 2, 3] : List Int).map (Value.int .i64))
  have hz11 := hb11.size
  have hbel11 := hbel10.trans (hb11.mono hbel10.size)
  have ho11 := ho10.below keeps_int (hb11.mono (by omega))
  have hrange : (List.range (4 : Int).toNat).map (fun v : Nat => (v : Int)) = [0, 1, 2, 3] := rfl
  have hin := ints20_calls (ho11.keep keeps_int (Below.refl _ _) (by omega)) (sl_zv kI) (Nat.le_refl _) (by simp)
  rw [decide_eq_true hrange] at hin
  change Calls _ _ #[.slice A8 ((List.range (4 : Int).toNat).map (fun v : Nat => (v : Int))).length cap8, .slice (some ⟨w10.heap.size, 0, none⟩) 4 4] (w10.alloc (.cells #[.int .i64 0, .int .i64 1, .int .i64 2, .int .i64 3] 3)) _ at hin
  have Hho10 := Lib.hid ho10; clear ho10; have Hho11 := Lib.hid ho11; clear ho11; have HkI := Lib.hid kI; clear kI; have Hhin := Lib.hid hin; clear hin; have Hhrange := Lib.hid hrange; clear hrange
  go_wp2_with fail
  refine Hhin.out.mono ?_
  rintro e w12 ⟨rfl, hb12⟩
  have hbel12 := hbel11.trans (hb12.mono hbel11.size)
  go_wp2_with fail
  go_ret
  exact ⟨rfl, hbel12⟩
end Go.Proofs.Ytpbdcppaiafbgaa
