/- Walks: ref12's Edges, After, Walk, Loops; ref08's Alike and Ints. -/
import Derived.Test.YtckkpmjkajkkmaaBN
namespace Go.Proofs.Ytckkpmjkajkkmaa
open Go Go.RowKit Go.Words Go.Mesh

set_option maxRecDepth 20000 in
set_option maxHeartbeats 1000000 in
theorem edges12_calls {w : World} {B : Nat} {sv : Value} {N : Int} {T : List T3} (hT : Sl 3 RTri w B sv T) (hB0 : B ≤ w.heap.size) (hfew : T.length ≤ 8192) :
    Calls Try.prog 32 #[.agg #[.int .i64 N, sv]] w fun e w' => (∃ r, e = .returned r ∧ w'.ownsRow w.heap.size 69 2 r (bedges T).length (pvals (bedges T))) ∧ Below w.heap.size w w' := by
  obtain ⟨A, cap, rfl, hcap⟩ := hT.form
  have hbox := Bk.new w 24 [.int .i64 N, .slice A T.length cap]
  have hb1 := (Below.refl w.heap.size w).alloc (Nat.le_refl _) (.cells #[.int .i64 N, .slice A T.length cap] 24)
  have hTA := hT.below keeps_tri (hb1.mono hB0)
  have hle : B ≤ (w.alloc (.cells #[.int .i64 N, .slice A T.length cap] 24)).heap.size := by rw [World.size_alloc]; omega
  have c0 := hbox.cell 0
  have c1 := hbox.cell 1
  simp only [List.getElem?_cons_zero, List.getElem?_cons_succ] at c0 c1
  have hz0 : w.heap.size < (w.alloc (.cells #[.int .i64 N, .slice A T.length cap] 24)).heap.size := by rw [World.size_alloc]; omega
  generalize hw0 : w.alloc (.cells #[.int .i64 N, .slice A T.length cap] 24) = w0 at *
  have hv := fun wz (h9 : Below w0.heap.size w0 wz) c hc => v12_calls (N := N) (hTA.below keeps_tri (h9.mono hle)) (by have := h9.size; omega) hfew c hc
  have ho := fun wz (h9 : Below w0.heap.size w0 wz) c hc => opp12_calls (N := N) (hTA.below keeps_tri (h9.mono hle)) (by have := h9.size; omega) hfew c hc
  have hn := fun wz c (hc : c < 1000000) => next12_calls wz c hc
  have hp := fun wz c (hc : c < 1000000) => prev12_calls wz c hc
  have HhT := Lib.hid hT; clear hT; have HhTA := Lib.hid hTA; clear hTA; have Hhbox := Lib.hid hbox; clear hbox; have Hhv := Lib.hid hv; clear hv; have Hho := Lib.hid ho; clear ho; have Hhn := Lib.hid hn; clear hn; have Hhp := Lib.hid hp; clear hp
  have hfin := bpre_all T
  have Hhfin := Lib.hid hfin; clear hfin
  go_enter Try.func32, Try.ntmps32
  go_wp2_with fail
  clear hw0
  go_loopw [3, 4] (fun l i wr => ∃ k : Nat, k ≤ 3 * T.length ∧ i = .int .i64 k ∧ wr.ownsRow w0.heap.size 69 2 l (bpre T k).length (pvals (bpre T k)) ∧ Below w0.heap.size w0 wr) (fun _ i _ => 3 * T.length - (intOf i).toNat)
  case atStart => exact ⟨0, by omega, rfl, World.ownsRow_nil _ _ _ _, Below.refl _ _⟩
  case round =>
    obtain ⟨k, hk, rfl, hown, hbel⟩ := hrel
    have hz := hbel.size
    have c0r := (hbel.cell (p := ⟨w.heap.size, 0, none⟩) hz0).trans c0
    have c1r := (hbel.cell (p := ⟨w.heap.size, 1, none⟩) hz0).trans c1
    by_cases hkl : k < 3 * T.length
    · have ho := Hho.out wr hbel k hkl
      have hst := bpre_step T k
      have hll := bpre_len T k
      generalize bpre T k = L at *
      cases hoc : opp T k with
      | some d =>
        rw [hoc] at ho hst
        rw [if_neg (by simp), List.append_nil] at hst
        have hd0 : ¬ (oi (some d) < 0) := by simp [oi]
        generalize oi (some d) = x at *
        have Hhown := Lib.hid hown; clear hown; have Hho := Lib.hid ho; clear ho; have Hhst := Lib.hid hst; clear hst; have Hhoc := Lib.hid hoc; clear hoc
        go_wp2_with fail
        refine Hho.out.mono ?_
        rintro e w1 ⟨rfl, hb2⟩
        have hown1 := own_below Hhown.out hb2 (Nat.le_refl _)
        have Hhown1 := Lib.hid hown1; clear hown1
        go_wp2_with fail
        exact ⟨⟨k + 1, by omega, by simp, by rw [Hhst.out]; exact Hhown1.out, hbel.trans (hb2.mono hz)⟩, by simp [intOf]; omega⟩
      | none =>
        rw [hoc] at ho hst
        rw [if_pos rfl] at hst
        have hd0 : oi none < 0 := by simp [oi]
        generalize oi none = x at *
        have Hho2 := Hho
        have Hhown := Lib.hid hown; clear hown; have Hho := Lib.hid ho; clear ho; have Hhst := Lib.hid hst; clear hst; have Hhoc := Lib.hid hoc; clear hoc
        go_wp2_with fail
        refine Hho.out.mono ?_
        rintro e w1 ⟨rfl, hb2⟩
        have hown1 := own_below Hhown.out hb2 (Nat.le_refl _)
        have hbel1 := hbel.trans (hb2.mono hz)
        have hz1 := hbel1.size
        have c0s : w1.cell? ⟨w.heap.size, 0, none⟩ = some (.int .i64 N) := (hbel1.cell (p := ⟨w.heap.size, 0, none⟩) hz0).trans c0
        have c1s : w1.cell? ⟨w.heap.size, 1, none⟩ = some (.slice A T.length cap) := (hbel1.cell (p := ⟨w.heap.size, 1, none⟩) hz0).trans c1
        have hbe : ∀ wz, Below w0.heap.size w1.drew wz → Go.Canon.KeepU (fun b => b = w.heap.size) w1.drew wz := fun wz h b h9 => by subst h9; exact h.block _ hz0
        have hd0 : Below w0.heap.size w1.drew w1.drew := Below.refl _ _
        have hbd : Below w0.heap.size w0 w1.drew := hbel1.drew
        have Hhown1 := Lib.hid hown1; clear hown1; have Hhbe := Lib.hid hbe; clear hbe
        go_wp2_with fail
        refine Go.Canon.wp_region_tree [1, 5] (fun b => b = w.heap.size) (.seg [0,1,2,5,6] (.alt 3 (.alt 4 (.alt 7 (.alt 8 (.seg [9] (.alt 10 (.alt 11 (.seg [12] .fin) .no) .no)) .no) .no) .no) .no)) mixed (by kernel_rfl) ?_
        refine Go.Canon.tr_seg ?_
        simp only [List.map_cons, List.map_nil, List.getD_cons_zero, List.getD_cons_succ]
        go_wp2_with fail
        refine Go.Canon.tr_to (Go.Canon.tr_one ?_)
        simp only [List.getD_cons_zero, List.getD_cons_succ]
        go_wp2_with fail
        refine (Hhn.out _ k (by omega)).mono ?_
        rintro e w2 ⟨rfl, rfl⟩
        go_wp2_with fail
        refine Go.Canon.tr_end (Hhbe.out _ hd0) (Go.Canon.tr_one ?_)
        simp only [List.getD_cons_zero, List.getD_cons_succ]
        go_wp2_with fail
        refine (Hhv.out _ hbd (nx k) (nx_lt hkl)).mono ?_
        rintro e w2 ⟨rfl, hb3⟩
        have hd2 : Below w0.heap.size w1.drew w2 := hb3.mono hbd.size
        have hbd2 := hbd.trans hd2
        go_wp2_with fail
        refine Go.Canon.tr_end (Hhbe.out _ hd2) (Go.Canon.tr_one ?_)
        simp only [List.getD_cons_zero, List.getD_cons_succ]
        go_wp2_with fail
        refine (Hhp.out _ k (by omega)).mono ?_
        rintro e w3 ⟨rfl, hw3⟩
        rw [hw3]
        clear hw3 w3
        go_wp2_with fail
        refine Go.Canon.tr_end (Hhbe.out _ hd2) (Go.Canon.tr_one ?_)
        simp only [List.getD_cons_zero, List.getD_cons_succ]
        go_wp2_with fail
        refine (Hhv.out _ hbd2 (pv k) (pv_lt hkl)).mono ?_
        rintro e w3 ⟨rfl, hb4⟩
        have hd3 : Below w0.heap.size w1.drew w3 := hd2.trans (hb4.mono hbd2.size)
        have hbd3 := hbd2.trans (hb4.mono hbd2.size)
        have hown3 := own_below (own_below (Go.Words.own_below Hhown1.out (Below.refl _ w1).drew (Nat.le_refl _)) hb3 (Nat.le_refl _)) hb4 (Nat.le_refl _)
        have Hhown3 := Lib.hid hown3; clear hown3
        go_wp2_with fail
        refine Go.Canon.tr_end (Hhbe.out _ hd3) (Go.Canon.tr_seg ?_)
        simp only [List.map_cons, List.map_nil, List.getD_cons_zero, List.getD_cons_succ]
        go_wp2_with fail
        refine Go.Canon.tr_to (Go.Canon.tr_one ?_)
        simp only [List.getD_cons_zero, List.getD_cons_succ]
        go_wp2_with fail
        refine Go.Canon.tr_end (Hhbe.out _ (hd3.alloc (by have := hbd3.size; omega) _)) (Go.Canon.tr_one ?_)
        simp only [List.getD_cons_zero, List.getD_cons_succ]
        have hz9 := hbd3.size
        refine append_block _ rfl _ _ 39 rfl w0.heap.size info_edge Try.underlying39 rfl (by decide) _ L.length (pvals L) rfl (Hhown3.out.alloc _) w3.heap.size [.int .i64 (Mesh.vt T (nx k)), .int .i64 (Mesh.vt T (pv k))] rfl (Bk.new _ _ _) rfl (by simp [Value.oneCell']) (by omega) (by decide) (by simp only [World.size_alloc]; omega) ?_
        intro v1 w5 hown5 hb5 _ _
        have hbel5 := (hbd3.alloc hz9 (.cells #[.int .i64 (Mesh.vt T (nx k)), .int .i64 (Mesh.vt T (pv k))] 69)).trans hb5
        have hd5 := (hd3.alloc (by omega) (.cells #[.int .i64 (Mesh.vt T (nx k)), .int .i64 (Mesh.vt T (pv k))] 69)).trans hb5
        have hown6 : w5.ownsRow w0.heap.size 69 2 v1 (bpre T (k + 1)).length (pvals (bpre T (k + 1))) := by
          rw [Hhst.out, pvals_snoc, List.length_append]
          exact hown5
        have Hhown5 := Lib.hid hown5; clear hown5; have Hhown6 := Lib.hid hown6; clear hown6
        refine Go.Canon.tr_end (Hhbe.out _ hd5) (Go.Canon.tr_seg ?_)
        simp only [List.map_cons, List.map_nil, List.getD_cons_zero, List.getD_cons_succ]
        go_wp2_with fail
        refine Go.Canon.tr_to (Go.Canon.tr_fin (by rfl) (List.forall_mem_cons.2 ⟨.inl ⟨_, rfl, rfl, by rw [World.cell?_drew, c0s]; rfl⟩, List.forall_mem_cons.2 ⟨.inl ⟨_, rfl, rfl, by rw [World.cell?_drew, c0s]; rfl⟩, fun _ h => by cases h⟩⟩) ?_)
        go_wp2_with fail
        exact ⟨⟨k + 1, by omega, by simp, Hhown6.out, hbel5⟩, by simp [intOf]; omega⟩
    · obtain rfl : k = 3 * T.length := by omega
      rw [Hhfin.out] at hown
      have hfi := hb1.trans (hbel.mono hb1.size)
      have Hhown := Lib.hid hown; clear hown
      go_wp2_with fail
      go_ret
      exact ⟨⟨_, rfl, own_base Hhown.out (by omega)⟩, hfi⟩
theorem aftV_least {N : Int} {T : List T3} (h : Surf N T) {v : Int} {k : Nat} (hk : k < 3 * T.length) (hv : Mesh.vt T (pv k) = v) (ho : opp T k = none) : afI T v = Mesh.vt T (nx k) := by
  unfold afI
  rw [h.aftV_iff.2 ⟨k, hk, ho, hv, rfl⟩]
  rfl
theorem aftV_no {N : Int} {T : List T3} (h : Surf N T) {v : Int} (hno : ∀ c, c < 3 * T.length → ¬ (Mesh.vt T (pv c) = v ∧ opp T c = none)) : afI T v = -1 := by
  unfold afI
  cases ha : aftV T v with
  | none => rfl
  | some a =>
    obtain ⟨c, h1, h2, h3, _⟩ := h.aftV_iff.1 ha
    exact absurd ⟨h3, h2⟩ (hno c h1)
set_option maxRecDepth 20000 in
set_option maxHeartbeats 1000000 in
theorem after12_calls {w : World} {B : Nat} {sv : Value} {N : Int} {T : List T3} (hT : Sl 3 RTri w B sv T) (hB0 : B ≤ w.heap.size) (hs : Surf N T) (v : Int) :
    Calls Try.prog 34 #[.agg #[.int .i64 N, sv], .int .i64 v] w fun e w' => e = .returned (.int .i64 (afI T v)) ∧ Below w.heap.size w w' := by
  have hfew := hs.tmax
  obtain ⟨A, cap, rfl, hcap⟩ := hT.form
  have hbox := Bk.new w 24 [.int .i64 N, .slice A T.length cap]
  have hb1 := (Below.refl w.heap.size w).alloc (Nat.le_refl _) (.cells #[.int .i64 N, .slice A T.length cap] 24)
  have hTA := hT.below keeps_tri (hb1.mono hB0)
  have hle : B ≤ (w.alloc (.cells #[.int .i64 N, .slice A T.length cap] 24)).heap.size := by rw [World.size_alloc]; omega
  have c0 := hbox.cell 0
  have c1 := hbox.cell 1
  simp only [List.getElem?_cons_zero, List.getElem?_cons_succ] at c0 c1
  have hz0 : w.heap.size < (w.alloc (.cells #[.int .i64 N, .slice A T.length cap] 24)).heap.size := by rw [World.size_alloc]; omega
  generalize hw0 : w.alloc (.cells #[.int .i64 N, .slice A T.length cap] 24) = w0 at *
  have hv := fun wz (h9 : Below w0.heap.size w0 wz) c hc => v12_calls (N := N) (hTA.below keeps_tri (h9.mono hle)) (by have := h9.size; omega) hfew c hc
  have ho := fun wz (h9 : Below w0.heap.size w0 wz) c hc => opp12_calls (N := N) (hTA.below keeps_tri (h9.mono hle)) (by have := h9.size; omega) hfew c hc
  have hn := fun wz c (hc : c < 1000000) => next12_calls wz c hc
  have hp := fun wz c (hc : c < 1000000) => prev12_calls wz c hc
  have HhT := Lib.hid hT; clear hT; have HhTA := Lib.hid hTA; clear hTA; have Hhbox := Lib.hid hbox; clear hbox; have Hhv := Lib.hid hv; clear hv; have Hho := Lib.hid ho; clear ho; have Hhn := Lib.hid hn; clear hn; have Hhp := Lib.hid hp; clear hp
  have Hhs := Lib.hid hs; clear hs
  go_enter Try.func34, Try.ntmps34
  go_wp2_with fail
  clear hw0
  go_loopw [5] (fun i wr => ∃ k : Nat, k ≤ 3 * T.length ∧ i = .int .i64 k ∧ (∀ c, c < k → ¬ (Mesh.vt T (pv c) = v ∧ opp T c = none)) ∧ Below w0.heap.size w0 wr) (fun i _ => 3 * T.length - (intOf i).toNat)
  case atStart => exact ⟨0, by omega, rfl, fun c hc => by omega, Below.refl _ _⟩
  case round =>
    obtain ⟨k, hk, rfl, hno, hbel⟩ := hrel
    have hz := hbel.size
    have c0r := (hbel.cell (p := ⟨w.heap.size, 0, none⟩) hz0).trans c0
    have c1r := (hbel.cell (p := ⟨w.heap.size, 1, none⟩) hz0).trans c1
    by_cases hkl : k < 3 * T.length
    · have hstep : ¬ (Mesh.vt T (pv k) = v ∧ opp T k = none) → ∀ c, c < k + 1 → ¬ (Mesh.vt T (pv c) = v ∧ opp T c = none) := fun h9 c hc => by
        by_cases hck : c = k
        · rw [hck]; exact h9
        · exact hno c (by omega)
      have hat := fun h1 h2 => aftV_least Hhs.out hkl (v := v) h1 h2
      have hbe : ∀ wz, Below w0.heap.size wr.drew wz → Go.Canon.KeepU (fun b => b = w.heap.size) wr.drew wz := fun wz h b h9 => by subst h9; exact h.block _ hz0
      have hd0 : Below w0.heap.size wr.drew wr.drew := Below.refl _ _
      have hbd : Below w0.heap.size w0 wr.drew := hbel.drew
      have Hhno := Lib.hid hno; clear hno; have Hhstep := Lib.hid hstep; clear hstep; have Hhat := Lib.hid hat; clear hat; have Hhbe := Lib.hid hbe; clear hbe
      go_wp2_with fail
      refine Go.Canon.wp_region_tree [0] (fun b => b = w.heap.size) (.seg [0,1,4] (.alt 2 (.alt 3 (.seg [5,6,7,8] (.alt 9 (.seg [10,11] .fin) .no)) .no) .no)) mixed (by kernel_rfl) ?_
      refine Go.Canon.tr_seg ?_
      simp only [List.map_cons, List.map_nil, List.getD_cons_zero, List.getD_cons_succ]
      go_wp2_with fail
      refine Go.Canon.tr_to (Go.Canon.tr_one ?_)
      simp only [List.getD_cons_zero, List.getD_cons_succ]
      go_wp2_with fail
      refine (Hhp.out _ k (by omega)).mono ?_
      rintro e w2 ⟨rfl, rfl⟩
      go_wp2_with fail
      refine Go.Canon.tr_end (Hhbe.out _ hd0) (Go.Canon.tr_one ?_)
      simp only [List.getD_cons_zero, List.getD_cons_succ]
      go_wp2_with fail
      refine (Hhv.out _ hbd (pv k) (pv_lt hkl)).mono ?_
      rintro e w2 ⟨rfl, hb3⟩
      have hd2 : Below w0.heap.size wr.drew w2 := hb3.mono hbd.size
      have hbd2 := hbd.trans hd2
      have c0s : w2.cell? ⟨w.heap.size, 0, none⟩ = some (.int .i64 N) := (hbd2.cell (p := ⟨w.heap.size, 0, none⟩) hz0).trans c0
      have c1s : w2.cell? ⟨w.heap.size, 1, none⟩ = some (.slice A T.length cap) := (hbd2.cell (p := ⟨w.heap.size, 1, none⟩) hz0).trans c1
      go_wp2_with fail
      refine Go.Canon.tr_end (Hhbe.out _ hd2) (Go.Canon.tr_seg ?_)
      simp only [List.map_cons, List.map_nil, List.getD_cons_zero, List.getD_cons_succ]
      by_cases hx : Mesh.vt T (pv k) = v
      · have hxb : (Mesh.vt T (pv k) == v) = true := by simpa using hx
        have ho2 := Hho.out w2 hbd2 k hkl
        cases hoc : opp T k with
        | none =>
          have hat2 := Hhat.out hx hoc
          rw [hoc] at ho2
          have hlt : oi none < 0 := by simp [oi]
          generalize oi none = x at *
          generalize Mesh.vt T (pv k) = y at *
          have Hho2 := Lib.hid ho2; clear ho2; have Hhoc := Lib.hid hoc; clear hoc; have Hhat2 := Lib.hid hat2; clear hat2; have Hhx := Lib.hid hx; clear hx
          go_wp2_with fail
          refine Go.Canon.tr_to (Go.Canon.tr_one ?_)
          simp only [List.getD_cons_zero, List.getD_cons_succ]
          go_wp2_with fail
          refine Hho2.out.mono ?_
          rintro e w3 ⟨rfl, hb4⟩
          have hd3 := hd2.trans (hb4.mono hbd2.size)
          have hbd3 := hbd2.trans (hb4.mono hbd2.size)
          go_wp2_with fail
          refine Go.Canon.tr_end (Hhbe.out _ hd3) (Go.Canon.tr_seg ?_)
          simp only [List.map_cons, List.map_nil, List.getD_cons_zero, List.getD_cons_succ]
          go_wp2_with fail
          refine Go.Canon.tr_to (Go.Canon.tr_fin (by rfl) (List.forall_mem_cons.2 ⟨.inl ⟨_, rfl, rfl, by rw [World.cell?_drew, c0r]; rfl⟩, fun _ h => by cases h⟩) ?_)
          have c0t : w3.cell? ⟨w.heap.size, 0, none⟩ = some (.int .i64 N) := (hbd3.cell (p := ⟨w.heap.size, 0, none⟩) hz0).trans c0
          have c1t : w3.cell? ⟨w.heap.size, 1, none⟩ = some (.slice A T.length cap) := (hbd3.cell (p := ⟨w.heap.size, 1, none⟩) hz0).trans c1
          have hbf : ∀ wz, Below w0.heap.size w3.drew wz → Go.Canon.KeepU (fun b => b = w.heap.size) w3.drew wz := fun wz h b h9 => by subst h9; exact h.block _ hz0
          have hf0 : Below w0.heap.size w3.drew w3.drew := Below.refl _ _
          have hbg := hbd3.drew
          have Hhbf := Lib.hid hbf; clear hbf
          go_wp2_with fail
          refine Go.Canon.wp_region_tree [0] (fun b => b = w.heap.size) (.seg [0,1] (.alt 2 (.alt 3 (.seg [4] .fin) .no) .no)) mixed (by kernel_rfl) ?_
          refine Go.Canon.tr_seg ?_
          simp only [List.map_cons, List.map_nil, List.getD_cons_zero, List.getD_cons_succ]
          go_wp2_with fail
          refine Go.Canon.tr_to (Go.Canon.tr_one ?_)
          simp only [List.getD_cons_zero, List.getD_cons_succ]
          go_wp2_with fail
          refine (Hhn.out _ k (by omega)).mono ?_
          rintro e w4 ⟨rfl, rfl⟩
          go_wp2_with fail
          refine Go.Canon.tr_end (Hhbf.out _ hf0) (Go.Canon.tr_one ?_)
          simp only [List.getD_cons_zero, List.getD_cons_succ]
          go_wp2_with fail
          refine (Hhv.out _ hbg (nx k) (nx_lt hkl)).mono ?_
          rintro e w4 ⟨rfl, hb5⟩
          have hf4 : Below w0.heap.size w3.drew w4 := hb5.mono hbg.size
          have hbg4 := hbg.trans hf4
          go_wp2_with fail
          refine Go.Canon.tr_end (Hhbf.out _ hf4) (Go.Canon.tr_seg ?_)
          simp only [List.map_cons, List.map_nil, List.getD_cons_zero, List.getD_cons_succ]
          have hfi := hb1.trans (hbg4.mono hb1.size)
          go_wp2_with fail
          refine Go.Canon.tr_to (Go.Canon.tr_fin (by rfl) (List.forall_mem_cons.2 ⟨.inl ⟨_, rfl, rfl, by rw [World.cell?_drew, c0t]; rfl⟩, fun _ h => by cases h⟩) ?_)
          go_wp2_with fail
          go_ret
          exact ⟨ret_int Hhat2.out.symm, hfi⟩
        | some d =>
          have hst := Hhstep.out (fun h9 => by rw [hoc] at h9; cases h9.2)
          rw [hoc] at ho2
          have hlt : ¬ oi (some d) < 0 := by simp [oi]
          generalize oi (some d) = x at *
          generalize Mesh.vt T (pv k) = y at *
          have Hho2 := Lib.hid ho2; clear ho2; have Hhoc := Lib.hid hoc; clear hoc; have Hhst := Lib.hid hst; clear hst; have Hhx := Lib.hid hx; clear hx
          go_wp2_with fail
          refine Go.Canon.tr_to (Go.Canon.tr_one ?_)
          simp only [List.getD_cons_zero, List.getD_cons_succ]
          go_wp2_with fail
          refine Hho2.out.mono ?_
          rintro e w3 ⟨rfl, hb4⟩
          have hd3 := hd2.trans (hb4.mono hbd2.size)
          have hbd3 := hbd2.trans (hb4.mono hbd2.size)
          go_wp2_with fail
          refine Go.Canon.tr_end (Hhbe.out _ hd3) (Go.Canon.tr_seg ?_)
          simp only [List.map_cons, List.map_nil, List.getD_cons_zero, List.getD_cons_succ]
          go_wp2_with fail
          refine Go.Canon.tr_to (Go.Canon.tr_fin (by rfl) (List.forall_mem_cons.2 ⟨.inl ⟨_, rfl, rfl, by rw [World.cell?_drew, c0r]; rfl⟩, fun _ h => by cases h⟩) ?_)
          go_wp2_with fail
          exact ⟨⟨k + 1, by omega, by simp, Hhst.out, hbd3⟩, by simp [intOf]; omega⟩
      · have hxb : (Mesh.vt T (pv k) == v) = false := by simpa using hx
        have hst := Hhstep.out (fun h9 => hx h9.1)
        generalize Mesh.vt T (pv k) = y at *
        have Hhx := Lib.hid hx; clear hx; have Hhst := Lib.hid hst; clear hst
        go_wp2_with fail
        refine Go.Canon.tr_to (Go.Canon.tr_one ?_)
        simp only [List.getD_cons_zero, List.getD_cons_succ]
        go_wp2_with fail
        refine Go.Canon.tr_end (Hhbe.out _ hd2) (Go.Canon.tr_seg ?_)
        simp only [List.map_cons, List.map_nil, List.getD_cons_zero, List.getD_cons_succ]
        go_wp2_with fail
        refine Go.Canon.tr_to (Go.Canon.tr_fin (by rfl) (List.forall_mem_cons.2 ⟨.inl ⟨_, rfl, rfl, by rw [World.cell?_drew, c0r]; rfl⟩, fun _ h => by cases h⟩) ?_)
        go_wp2_with fail
        exact ⟨⟨k + 1, by omega, by simp, Hhst.out, hbd2⟩, by simp [intOf]; omega⟩
    · obtain rfl : k = 3 * T.length := by omega
      have hf := aftV_no Hhs.out hno
      have hfi := hb1.trans (hbel.mono hb1.size)
      have Hhno := Lib.hid hno; clear hno; have Hhf := Lib.hid hf; clear hf
      go_wp2_with fail
      go_ret
      exact ⟨ret_int Hhf.out.symm, hfi⟩
end Go.Proofs.Ytckkpmjkajkkmaa
