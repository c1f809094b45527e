/- Walks: sew's find and one (closures that share two variables), edge. -/
import Derived.Test.YtpbdcppaiafbgaaMC
import Derived.Test.YtpbdcppaiafbgaaTree
import Derived.Test.YtpbdcppaiafbgaaGA
namespace Go.Words
open Go Go.RowKit Go.Mesh
def R4 : Rep P4 := fun _ _ p cs => cs = [.int .i64 p.1.1, .int .i64 p.1.2, .int .i64 p.2.1, .int .i64 p.2.2]
theorem keeps_4 : Keeps R4 := ⟨fun h _ _ => h⟩
theorem Sl.p4_at {w : World} {B n cap k : Nat} {A : Option Addr} {l : List P4} (h : Sl 4 R4 w B (.slice A n cap) l) {p : P4} (hk : l[k]? = some p) :
    ∃ b o, A = some ⟨b, o, none⟩ ∧ b < B ∧ w.cell? ⟨b, o + k * 4, none⟩ = some (.int .i64 p.1.1) ∧ w.cell? ⟨b, o + k * 4 + 1, none⟩ = some (.int .i64 p.1.2) ∧ w.cell? ⟨b, o + k * 4 + 2, none⟩ = some (.int .i64 p.2.1) ∧ w.cell? ⟨b, o + k * 4 + 3, none⟩ = some (.int .i64 p.2.2) := by
  obtain ⟨b, o, cs, h1, h2, h3, h4, h5⟩ := h.at_ hk
  unfold R4 at h4
  subst h4
  exact ⟨b, o, h1, h2, by simpa using h5 0 _ rfl, h5 1 _ rfl, h5 2 _ rfl, h5 3 _ rfl⟩
end Go.Words
namespace Go.Proofs.Ytpbdcppaiafbgaa
open Go Go.RowKit Go.Words Go.Mesh

/-- Where find and its roots lie. -/
structure FindW (w : World) (gr gf g : Nat) (R : List Int) : Prop where
  root : w.cell? ⟨gr, 0, none⟩ = some (.slice (some ⟨g, 0, none⟩) R.length R.length)
  find : w.cell? ⟨gf, 0, none⟩ = some (.func (.func 25) #[] #[.pointer (some ⟨gr, 0, none⟩), .pointer (some ⟨gf, 0, none⟩)])
  bk : Bk w g 3 (R.map (Value.int .i64))
  lr : gr < w.heap.size
  lf : gf < w.heap.size
theorem FindW.below {w w' : World} {gr gf g : Nat} {R : List Int} (h : FindW w gr gf g R) (hb : Below w.heap.size w w') : FindW w' gr gf g R :=
  ⟨(hb.cell (p := ⟨gr, 0, none⟩) h.lr).trans h.root, (hb.cell (p := ⟨gf, 0, none⟩) h.lf).trans h.find, h.bk.below hb h.bk.lt, Nat.lt_of_lt_of_le h.lr hb.size, Nat.lt_of_lt_of_le h.lf hb.size⟩
theorem FindW.drew {w : World} {gr gf g : Nat} {R : List Int} (h : FindW w gr gf g R) : FindW w.drew gr gf g R := ⟨h.root, h.find, h.bk.drew, h.lr, h.lf⟩
set_option maxRecDepth 20000 in
set_option maxHeartbeats 2000000 in
theorem find_calls {R : List Int} {L : Int → Int} {n : Nat} (hR : Roots R L n) (gr gf g : Nat) : ∀ v : Nat, v < n → ∀ w, FindW w gr gf g R →
    Calls Try.prog 25 #[.int .i64 (v : Int), .pointer (some ⟨gr, 0, none⟩), .pointer (some ⟨gf, 0, none⟩)] w fun e w' => e = .returned (.int .i64 (L (v : Int))) ∧ Below w.heap.size w w' := by
  intro v
  induction v using Nat.strongRecOn with
  | ind v ih =>
    intro hv w hw
    obtain ⟨r, e1, e2, e3, e4⟩ := hR.2 v hv
    have c1 := hw.root
    have c2 := hw.find
    have hvl : v < R.length := by rw [hR.1]; exact hv
    have cv := hw.bk.cell v
    rw [List.getElem?_map, e1, Option.map_some] at cv
    have hb0 := Below.refl w.heap.size w
    by_cases hrv : r = v
    · have hL := e3.1 hrv
      have hrb : ((r : Int) == (v : Int)) = true := by rw [hrv]; exact beq_self_eq_true _
      rw [hL]
      have Hhw := Lib.hid hw; clear hw; have He1 := Lib.hid e1; clear e1; have He3 := Lib.hid e3; clear e3; have He4 := Lib.hid e4; clear e4; have HhL := Lib.hid hL; clear hL; have Hhrv := Lib.hid hrv; clear hrv; have Hih := Lib.hid ih; clear ih
      go_enter Try.func25, Try.ntmps25
      go_wp2_with fail
      go_ret
      exact ⟨rfl, hb0⟩
    · have hrb : ((r : Int) == (v : Int)) = false := by rw [beq_eq_false_iff_ne]; omega
      have hcall := ih r (by omega) (by omega) w.drew hw.drew
      rw [e4] at hcall
      generalize L (v : Int) = z at *
      have Hhw := Lib.hid hw; clear hw; have He1 := Lib.hid e1; clear e1; have He3 := Lib.hid e3; clear e3; have He4 := Lib.hid e4; clear e4; have Hhrv := Lib.hid hrv; clear hrv; have Hih := Lib.hid ih; clear ih; have Hhcall := Lib.hid hcall; clear hcall
      go_enter Try.func25, Try.ntmps25
      go_wp2_with fail
      refine Go.Canon.wp_region_text mixed (by kernel_rfl) ?_
      go_wp2_with fail
      refine Hhcall.out.mono ?_
      rintro e w1 ⟨rfl, hb1⟩
      have hb2 := hb0.drew.trans hb1
      go_wp2_with fail
      refine Go.Canon.chk (by rfl) ?_
      go_wp2_with fail
      go_ret
      exact ⟨rfl, hb2⟩
set_option maxRecDepth 20000 in
set_option maxHeartbeats 2000000 in
theorem one_calls {R : List Int} {L : Int → Int} {n : Nat} (hR : Roots R L n) (hL : Lab L) (h0 : ∀ v, 0 ≤ v → 0 ≤ L v) (gr gf g : Nat) (hgr : gr ≠ g) (hgf : gf ≠ g) (v u : Nat) (hv : v < n) (hu : u < n) (w : World) (hw : FindW w gr gf g R) :
    Calls Try.prog 26 #[.int .i64 (v : Int), .int .i64 (u : Int), .pointer (some ⟨gf, 0, none⟩), .pointer (some ⟨gr, 0, none⟩)] w fun e w' => e = .returned (.tuple #[]) ∧ (∃ R', Roots R' (mrg L v u) n ∧ FindW w' gr gf g R') ∧ w.grownBy w' (some g) := by
  have hf := find_calls hR gr gf g
  obtain ⟨a, ha⟩ : ∃ a : Nat, L (v : Int) = a := ⟨(L v).toNat, by have := h0 v (by omega); omega⟩
  obtain ⟨b, hb⟩ : ∃ b : Nat, L (u : Int) = b := ⟨(L u).toNat, by have := h0 u (by omega); omega⟩
  have hla := hL.le v
  have hlb := hL.le u
  have hjoin := hR.join hL ha hb
  have hRl := hR.1
  have hmx : max a b < R.length := by omega
  have hmm : max (a : Int) b = ((max a b : Nat) : Int) := by omega
  have hmi : min (a : Int) b = ((min a b : Nat) : Int) := by omega
  have hgl := hw.bk.lt
  have hgle : g ≤ w.heap.size := by omega
  have hlr := hw.lr
  have hlf := hw.lf
  have c2 := hw.find
  have hfv := fun w hw => hf v hv w hw
  have hfu := fun w hw => hf u hu w hw
  rw [ha] at hfv
  rw [hb] at hfu
  have hb0 := Below.refl w.heap.size w
  have h3 : (max a b = b ∧ min a b = a ∧ min a b < max a b) ∨ (max a b = a ∧ min a b = b ∧ min a b < max a b) ∨ (max a b = b ∧ max a b = a ∧ max a b = min a b) := by omega
  generalize max a b = mx at *
  generalize min a b = mi at *
  clear hmm hmi
  rcases h3 with ⟨q1, q2, hab⟩ | ⟨q1, q2, hab⟩ | ⟨q1, q2, q3⟩
  · subst q1; subst q2
    have Hhf := Lib.hid hf; clear hf; have HhR := Lib.hid hR; clear hR; have HhL := Lib.hid hL; clear hL; have Hh0 := Lib.hid h0; clear h0; have Hhjoin := Lib.hid hjoin; clear hjoin; have Hhfv := Lib.hid hfv; clear hfv; have Hhfu := Lib.hid hfu; clear hfu; have Hhw := Lib.hid hw; clear hw; have Hha := Lib.hid ha; clear ha; have Hhb := Lib.hid hb; clear hb
    go_enter Try.func26, Try.ntmps26
    go_wp2_with fail
    refine Go.Canon.wp_region_tree [3] (fun b => b = gf) (.seg [0,1,3,4] (.alt 2 (.alt 5 (.seg [6,7] .fin) .no) .no)) mixed (by kernel_rfl) ?_
    refine Go.Canon.tr_seg ?_
    simp only [List.map_cons, List.map_nil, List.getD_cons_zero, List.getD_cons_succ]
    go_wp2_with fail
    refine Go.Canon.tr_to (Go.Canon.tr_one ?_)
    simp only [List.getD_cons_zero, List.getD_cons_succ]
    go_wp2_with fail
    refine (Hhfv.out w.drew Hhw.out.drew).mono ?_
    rintro e w1 ⟨rfl, hb1⟩
    have hb1 := hb0.drew.trans hb1
    have hw1 := Hhw.out.below hb1
    have hz1 := hb1.size
    have Hhw1 := Lib.hid hw1; clear hw1
    go_wp2_with fail
    refine Go.Canon.tr_end (fun b hb => by subst hb; exact hb1.block _ hlf) (Go.Canon.tr_one ?_)
    simp only [List.getD_cons_zero, List.getD_cons_succ]
    go_wp2_with fail
    refine (Hhfu.out w1 Hhw1.out).mono ?_
    rintro e w2 ⟨rfl, hb2⟩
    have hw2 := Hhw1.out.below hb2
    have hb2 := hb1.trans (hb2.mono hz1)
    have c1 := hw2.root
    have hz2 := hb2.size
    have hmr : ∃ x, R[mx]? = some x := ⟨_, List.getElem?_eq_getElem hmx⟩
    obtain ⟨x, hx⟩ := hmr
    have cx := hw2.bk.cell mx
    rw [List.getElem?_map, hx, Option.map_some] at cx
    have hfr := hw2.bk.frozen mx
    have hk3 := hw2.bk.set mx (.int .i64 (mi : Int))
    rw [← List.map_set] at hk3
    have c2b := hw2.find
    have hfin : FindW (w2.setCell ⟨g, mx, none⟩ (.int .i64 (mi : Int))) gr gf g (R.set mx (mi : Int)) := ⟨by
        rw [World.cell?_setCell_other _ _ _ _ (by intro h; injection h with h; exact hgr h.symm), c1, List.length_set], by
        rw [World.cell?_setCell_other _ _ _ _ (by intro h; injection h with h; exact hgf h.symm)]; exact c2b, hk3, by simp; omega, by simp; omega⟩
    have hbf : w.grownBy (w2.setCell ⟨g, mx, none⟩ (.int .i64 (mi : Int))) (some g) := ⟨hb2.os, hb2.tape, hb2.output, by simpa using hb2.size, fun k hk hne => (Below.heap_setCell w2 ⟨g, mx, none⟩ (.int .i64 (mi : Int)) k (fun h9 => hne (by rw [h9]))).trans (hb2.block k hk)⟩
    have Hhw2 := Lib.hid hw2; clear hw2; have Hhk3 := Lib.hid hk3; clear hk3; have Hhfin := Lib.hid hfin; clear hfin; have Hhbf := Lib.hid hbf; clear hbf; have Hhx := Lib.hid hx; clear hx
    go_wp2_with fail
    refine Go.Canon.tr_end (fun b hb => by subst hb; exact hb2.block _ hlf) (Go.Canon.tr_seg ?_)
    simp only [List.map_cons, List.map_nil, List.getD_cons_zero, List.getD_cons_succ]
    go_wp2_with fail
    refine Go.Canon.tr_to (Go.Canon.tr_fin (by rfl) (List.forall_mem_cons.2 ⟨.inl ⟨_, rfl, rfl, by rw [World.cell?_drew, c2]; rfl⟩, fun _ h => by cases h⟩) ?_)
    go_wp2_with fail
    go_end0
    exact ⟨rfl, ⟨_, Hhjoin.out, Hhfin.out⟩, Hhbf.out⟩
  · subst q1; subst q2
    have Hhf := Lib.hid hf; clear hf; have HhR := Lib.hid hR; clear hR; have HhL := Lib.hid hL; clear hL; have Hh0 := Lib.hid h0; clear h0; have Hhjoin := Lib.hid hjoin; clear hjoin; have Hhfv := Lib.hid hfv; clear hfv; have Hhfu := Lib.hid hfu; clear hfu; have Hhw := Lib.hid hw; clear hw; have Hha := Lib.hid ha; clear ha; have Hhb := Lib.hid hb; clear hb
    go_enter Try.func26, Try.ntmps26
    go_wp2_with fail
    refine Go.Canon.wp_region_tree [3] (fun b => b = gf) (.seg [0,1,3,4] (.alt 2 (.alt 5 (.seg [6,7] .fin) .no) .no)) mixed (by kernel_rfl) ?_
    refine Go.Canon.tr_seg ?_
    simp only [List.map_cons, List.map_nil, List.getD_cons_zero, List.getD_cons_succ]
    go_wp2_with fail
    refine Go.Canon.tr_to (Go.Canon.tr_one ?_)
    simp only [List.getD_cons_zero, List.getD_cons_succ]
    go_wp2_with fail
    refine (Hhfv.out w.drew Hhw.out.drew).mono ?_
    rintro e w1 ⟨rfl, hb1⟩
    have hb1 := hb0.drew.trans hb1
    have hw1 := Hhw.out.below hb1
    have hz1 := hb1.size
    have Hhw1 := Lib.hid hw1; clear hw1
    go_wp2_with fail
    refine Go.Canon.tr_end (fun b hb => by subst hb; exact hb1.block _ hlf) (Go.Canon.tr_one ?_)
    simp only [List.getD_cons_zero, List.getD_cons_succ]
    go_wp2_with fail
    refine (Hhfu.out w1 Hhw1.out).mono ?_
    rintro e w2 ⟨rfl, hb2⟩
    have hw2 := Hhw1.out.below hb2
    have hb2 := hb1.trans (hb2.mono hz1)
    have c1 := hw2.root
    have hz2 := hb2.size
    have hmr : ∃ x, R[mx]? = some x := ⟨_, List.getElem?_eq_getElem hmx⟩
    obtain ⟨x, hx⟩ := hmr
    have cx := hw2.bk.cell mx
    rw [List.getElem?_map, hx, Option.map_some] at cx
    have hfr := hw2.bk.frozen mx
    have hk3 := hw2.bk.set mx (.int .i64 (mi : Int))
    rw [← List.map_set] at hk3
    have c2b := hw2.find
    have hfin : FindW (w2.setCell ⟨g, mx, none⟩ (.int .i64 (mi : Int))) gr gf g (R.set mx (mi : Int)) := ⟨by
        rw [World.cell?_setCell_other _ _ _ _ (by intro h; injection h with h; exact hgr h.symm), c1, List.length_set], by
        rw [World.cell?_setCell_other _ _ _ _ (by intro h; injection h with h; exact hgf h.symm)]; exact c2b, hk3, by simp; omega, by simp; omega⟩
    have hbf : w.grownBy (w2.setCell ⟨g, mx, none⟩ (.int .i64 (mi : Int))) (some g) := ⟨hb2.os, hb2.tape, hb2.output, by simpa using hb2.size, fun k hk hne => (Below.heap_setCell w2 ⟨g, mx, none⟩ (.int .i64 (mi : Int)) k (fun h9 => hne (by rw [h9]))).trans (hb2.block k hk)⟩
    have Hhw2 := Lib.hid hw2; clear hw2; have Hhk3 := Lib.hid hk3; clear hk3; have Hhfin := Lib.hid hfin; clear hfin; have Hhbf := Lib.hid hbf; clear hbf; have Hhx := Lib.hid hx; clear hx
    go_wp2_with fail
    refine Go.Canon.tr_end (fun b hb => by subst hb; exact hb2.block _ hlf) (Go.Canon.tr_seg ?_)
    simp only [List.map_cons, List.map_nil, List.getD_cons_zero, List.getD_cons_succ]
    go_wp2_with fail
    refine Go.Canon.tr_to (Go.Canon.tr_fin (by rfl) (List.forall_mem_cons.2 ⟨.inl ⟨_, rfl, rfl, by rw [World.cell?_drew, c2]; rfl⟩, fun _ h => by cases h⟩) ?_)
    go_wp2_with fail
    go_end0
    exact ⟨rfl, ⟨_, Hhjoin.out, Hhfin.out⟩, Hhbf.out⟩
  · subst q1; subst q2; subst q3
    have Hhf := Lib.hid hf; clear hf; have HhR := Lib.hid hR; clear hR; have HhL := Lib.hid hL; clear hL; have Hh0 := Lib.hid h0; clear h0; have Hhjoin := Lib.hid hjoin; clear hjoin; have Hhfv := Lib.hid hfv; clear hfv; have Hhfu := Lib.hid hfu; clear hfu; have Hhw := Lib.hid hw; clear hw; have Hha := Lib.hid ha; clear ha; have Hhb := Lib.hid hb; clear hb
    go_enter Try.func26, Try.ntmps26
    go_wp2_with fail
    refine Go.Canon.wp_region_tree [3] (fun b => b = gf) (.seg [0,1,3,4] (.alt 2 (.alt 5 (.seg [6,7] .fin) .no) .no)) mixed (by kernel_rfl) ?_
    refine Go.Canon.tr_seg ?_
    simp only [List.map_cons, List.map_nil, List.getD_cons_zero, List.getD_cons_succ]
    go_wp2_with fail
    refine Go.Canon.tr_to (Go.Canon.tr_one ?_)
    simp only [List.getD_cons_zero, List.getD_cons_succ]
    go_wp2_with fail
    refine (Hhfv.out w.drew Hhw.out.drew).mono ?_
    rintro e w1 ⟨rfl, hb1⟩
    have hb1 := hb0.drew.trans hb1
    have hw1 := Hhw.out.below hb1
    have hz1 := hb1.size
    have Hhw1 := Lib.hid hw1; clear hw1
    go_wp2_with fail
    refine Go.Canon.tr_end (fun b hb => by subst hb; exact hb1.block _ hlf) (Go.Canon.tr_one ?_)
    simp only [List.getD_cons_zero, List.getD_cons_succ]
    go_wp2_with fail
    refine (Hhfu.out w1 Hhw1.out).mono ?_
    rintro e w2 ⟨rfl, hb2⟩
    have hw2 := Hhw1.out.below hb2
    have hb2 := hb1.trans (hb2.mono hz1)
    have c1 := hw2.root
    have hz2 := hb2.size
    have hmr : ∃ x, R[mx]? = some x := ⟨_, List.getElem?_eq_getElem hmx⟩
    obtain ⟨x, hx⟩ := hmr
    have cx := hw2.bk.cell mx
    rw [List.getElem?_map, hx, Option.map_some] at cx
    have hfr := hw2.bk.frozen mx
    have hk3 := hw2.bk.set mx (.int .i64 (mx : Int))
    rw [← List.map_set] at hk3
    have c2b := hw2.find
    have hfin : FindW (w2.setCell ⟨g, mx, none⟩ (.int .i64 (mx : Int))) gr gf g (R.set mx (mx : Int)) := ⟨by
        rw [World.cell?_setCell_other _ _ _ _ (by intro h; injection h with h; exact hgr h.symm), c1, List.length_set], by
        rw [World.cell?_setCell_other _ _ _ _ (by intro h; injection h with h; exact hgf h.symm)]; exact c2b, hk3, by simp; omega, by simp; omega⟩
    have hbf : w.grownBy (w2.setCell ⟨g, mx, none⟩ (.int .i64 (mx : Int))) (some g) := ⟨hb2.os, hb2.tape, hb2.output, by simpa using hb2.size, fun k hk hne => (Below.heap_setCell w2 ⟨g, mx, none⟩ (.int .i64 (mx : Int)) k (fun h9 => hne (by rw [h9]))).trans (hb2.block k hk)⟩
    have Hhw2 := Lib.hid hw2; clear hw2; have Hhk3 := Lib.hid hk3; clear hk3; have Hhfin := Lib.hid hfin; clear hfin; have Hhbf := Lib.hid hbf; clear hbf; have Hhx := Lib.hid hx; clear hx
    go_wp2_with fail
    refine Go.Canon.tr_end (fun b hb => by subst hb; exact hb2.block _ hlf) (Go.Canon.tr_seg ?_)
    simp only [List.map_cons, List.map_nil, List.getD_cons_zero, List.getD_cons_succ]
    go_wp2_with fail
    refine Go.Canon.tr_to (Go.Canon.tr_fin (by rfl) (List.forall_mem_cons.2 ⟨.inl ⟨_, rfl, rfl, by rw [World.cell?_drew, c2]; rfl⟩, fun _ h => by cases h⟩) ?_)
    go_wp2_with fail
    go_end0
    exact ⟨rfl, ⟨_, Hhjoin.out, Hhfin.out⟩, Hhbf.out⟩
set_option maxRecDepth 20000 in
set_option maxHeartbeats 1000000 in
theorem sedge_calls {w : World} {B : Nat} {lv : Value} {lo : List Int} (h : Sl 1 RInt w B lv lo) (hB0 : B ≤ w.heap.size) (hl : lo.length ≤ 1000000) (i : Nat) (hi : i < lo.length) :
    Calls Try.prog 21 #[lv, .int .i64 (i : Int)] w fun e w' => e = .returned (enc2 (lo.getD ((i + 1) % lo.length) 0, lo.getD i 0)) ∧ Below w.heap.size w w' := by
  obtain ⟨A, cap, rfl, hcap⟩ := h.form
  obtain ⟨j, hj⟩ : ∃ j, (i + 1) % lo.length = j := ⟨_, rfl⟩
  have hjl : j < lo.length := by rw [← hj]; exact Nat.mod_lt _ (by omega)
  have hji : ((i : Int) + 1) % (lo.length : Int) = (j : Int) := by rw [← hj]; exact (Int.natCast_emod (i + 1) lo.length).symm
  obtain ⟨b, o, rfl, hb, ci⟩ := h.int_at hi
  obtain ⟨b', o', h1, hb', cj⟩ := h.int_at hjl
  injection h1 with h1
  injection h1 with h1 h2
  subst h1; subst h2
  rw [hj, show lo.getD i 0 = lo[i] by rw [List.getD_eq_getElem?_getD, List.getElem?_eq_getElem hi]; rfl, show lo.getD j 0 = lo[j] by rw [List.getD_eq_getElem?_getD, List.getElem?_eq_getElem hjl]; rfl]
  generalize lo[i] = x at *
  generalize lo[j] = y at *
  have hbw : b < w.heap.size := by omega
  have hb1 := ((Below.refl w.heap.size w).alloc (Nat.le_refl _) (.cells #[.int .i64 0, .int .i64 0] 47))
  have hne : ((lo.length : Int) == 0) = false := by rw [beq_eq_false_iff_ne]; omega
  have hpos : 0 < (lo.length : Int) := by omega
  unfold enc2
  clear hj
  have Hh := Lib.hid h; clear h; have Hhb1 := Lib.hid hb1; clear hb1
  go_enter Try.func21, Try.ntmps21
  go_wp2_with fail
  refine Go.Canon.wp_region_text mixed (by kernel_rfl) ?_
  go_wp2_with fail
  refine Go.Canon.chk (by rfl) ?_
  go_wp2_with fail
  exact ret_cell rfl rfl (Bk.new w 47 [.int .i64 y, .int .i64 x]).drew Try.underlying47 rfl (by kernel_rfl) rfl ⟨rfl, ((Below.refl w.heap.size w).alloc (Nat.le_refl _) (.cells #[.int .i64 y, .int .i64 x] 47)).drew⟩
end Go.Proofs.Ytpbdcppaiafbgaa
