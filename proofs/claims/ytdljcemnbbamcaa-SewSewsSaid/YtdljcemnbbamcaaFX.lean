/- Walk: ref20.Sew. The law SewSews, walked. -/
import Derived.Test.YtdljcemnbbamcaaFS
import Derived.Test.YtdljcemnbbamcaaFV
import Derived.Deep.Cut
import Derived.Deep.CutBlock
import Derived.Deep.DeepCutAuto
import Derived.Test.YtdljcemnbbamcaaFM
namespace Go.Mesh
/-- A row of labels. -/
def valL (O : Int → Int) (n : Nat) : List Int := (List.range n).map fun v : Nat => O (v : Int)
theorem valL_at (O : Int → Int) {n v : Nat} (h : v < n) : (valL O n)[v]? = some (O (v : Int)) := by
  unfold valL
  rw [List.getElem?_map, List.getElem?_range h]; rfl
theorem valL_stp (O : Int → Int) {n x y : Nat} (hx : x < n) (hy : y < n) {m : Int} (hm : m = min (O (x : Int)) (O (y : Int))) : ((valL O n).set x m).set y m = valL (stp O (x : Int) (y : Int)) n := by
  subst hm
  have hlen : ∀ O : Int → Int, (valL O n).length = n := fun O => by unfold valL; simp
  apply List.ext_getElem?
  intro j
  by_cases hj : j < n
  · rw [valL_at _ hj, List.getElem?_set, List.length_set, hlen, List.getElem?_set, hlen, valL_at _ hj]
    unfold stp
    by_cases h1 : y = j
    · subst h1
      rw [if_pos rfl, if_pos hy, if_pos (.inr rfl)]
    · rw [if_neg h1]
      by_cases h2 : x = j
      · subst h2
        rw [if_pos rfl, if_pos hx, if_pos (.inl rfl)]
      · rw [if_neg h2, if_neg (by omega)]
  · rw [List.getElem?_eq_none (by rw [List.length_set, List.length_set, hlen]; omega), List.getElem?_eq_none (by rw [hlen]; omega)]
theorem rnd_take {l : List P4} {k : Nat} {p : P4} (h : l[k]? = some p) (O : Int → Int) : rnd (edP (l.take (k + 1))) O = stp (stp (rnd (edP (l.take k)) O) p.1.1 p.2.2) p.1.2 p.2.1 := by
  obtain ⟨hk, rfl⟩ := List.getElem?_eq_some_iff.1 h
  rw [List.take_succ_eq_append_getElem hk]
  have : edP (l.take k ++ [l[k]]) = edP (l.take k) ++ [(l[k].1.1, l[k].2.2), (l[k].1.2, l[k].2.1)] := by
    unfold edP; rw [List.flatMap_append]; rfl
  rw [this]
  unfold rnd
  rw [List.foldl_append]; rfl
end Go.Mesh
namespace Go.Proofs.Ytdljcemnbbamcaa
open Go Go.RowKit Go.Words Go.Mesh

set_option maxRecDepth 40000 in
set_option maxHeartbeats 16000000 in
theorem refsew_calls {w : World} {B : Nat} {sv lv : Value} {N : Int} {T : List T3} {l : List P4} (hT : Sl 3 RTri w B sv T) (hl : Sl 4 R4 w B lv l) (hB0 : B ≤ w.heap.size) (hfew : T.length ≤ 200) (hll : l.length ≤ 1000) :
    Calls Try.prog 10 #[.agg #[.int .i64 N, sv], lv] w fun e w' => (∃ (x o : Value) (c : Int), e = .returned (.tuple #[x, o, .int .i64 c]) ∧ SewEnd w' N T l x o c) ∧ Below w.heap.size w w' := by
  obtain ⟨A, cap, rfl, hcap⟩ := hT.form
  obtain ⟨A2, cap2, rfl, hcap2⟩ := hl.form
  have hb1 := ((Below.refl w.heap.size w).alloc (Nat.le_refl _) (.cells #[.int .i64 N, .slice A T.length cap] 24)).alloc (by simp) (.cells #[.int .i64 0, .slice none 0 0] 24)
  have hk1 := (Bk.new w 24 [.int .i64 N, .slice A T.length cap]).alloc (.cells #[.int .i64 0, .slice none 0 0] 24)
  have hk2 := Bk.new' (n := w.heap.size + 1) (w := w.alloc (.cells #[.int .i64 N, .slice A T.length cap] 24)) 24 [.int .i64 0, .slice none 0 0] (by simp)
  have hTA := hT.below keeps_tri (hb1.mono hB0)
  have hlA := hl.below keeps_4 (hb1.mono hB0)
  have hz0 : w.heap.size + 2 ≤ ((w.alloc (.cells #[.int .i64 N, .slice A T.length cap] 24)).alloc (.cells #[.int .i64 0, .slice none 0 0] 24)).heap.size := by simp
  generalize hw0 : (w.alloc (.cells #[.int .i64 N, .slice A T.length cap] 24)).alloc (.cells #[.int .i64 0, .slice none 0 0] 24) = w0 at *
  have hci := is15_calls (.slice A T.length cap) N T w0 (B := B) (by omega) hTA hfew
  have c0 : w0.cell? ⟨w.heap.size, 0, none⟩ = some (.int .i64 N) := hk1.cell 0
  have c1 : w0.cell? ⟨w.heap.size, 1, none⟩ = some (.slice A T.length cap) := hk1.cell 1
  have HhT := Lib.hid hT; clear hT; have Hhl := Lib.hid hl; clear hl; have Hhk1 := Lib.hid hk1; clear hk1; have Hhk2 := Lib.hid hk2; clear hk2; have HhTA := Lib.hid hTA; clear hTA; have HhlA := Lib.hid hlA; clear hlA; have Hhci := Lib.hid hci; clear hci
  go_enter Try.func10, Try.ntmps10
  go_wp2_with fail
  clear hw0
  refine Hhci.out.mono ?_
  rintro e w1 ⟨⟨b, rfl, hb⟩, hb2⟩
  have hz1 := hb2.size
  have hbel1 := hb1.trans (hb2.mono (by omega))
  have hk11 := Hhk1.out.below hb2 (by omega)
  have hk21 := Hhk2.out.below hb2 (by omega)
  cases b with
  | false =>
    have hn : ¬ Surf N T := fun h => by have := hb.2 h; cases this
    have hf1 := hk21.frozen
    have he0 : w1.cell? ⟨w.heap.size + 1, 0, none⟩ = some (.int .i64 0) := hk21.cell 0
    have he1 : w1.cell? ⟨w.heap.size + 1, 1, none⟩ = some (.slice none 0 0) := hk21.cell 1
    have hbf := (hbel1.setCell (p := ⟨w.heap.size + 1, 0, none⟩) (by simp) (.int .i64 0)).setCell (p := ⟨w.heap.size + 1, 1, none⟩) (by simp) (.slice none 0 0)
    have hkf := (hk21.set 0 (.int .i64 0)).set 1 (.slice none 0 0)
    have Hhbf := Lib.hid hbf; clear hbf; have Hhkf := Lib.hid hkf; clear hkf
    have Hhb := Lib.hid hb; clear hb; have Hhn := Lib.hid hn; clear hn; have Hhk11 := Lib.hid hk11; clear hk11; have Hhk21 := Lib.hid hk21; clear hk21
    go_wp2_with fail
    exact ret_ctt rfl rfl Hhkf.out Try.underlying24 rfl (by kernel_rfl) rfl ⟨⟨_, _, _, rfl, .inl ⟨Hhn.out, rfl, rfl, rfl⟩⟩, Hhbf.out⟩
  | true =>
    have hs := hb.1 rfl
    have hTw := HhTA.out.below keeps_tri (hb2.mono (by omega))
    have hlw := HhlA.out.below keeps_4 (hb2.mono (by omega))
    have hbo := fun wz (hz : Below w1.heap.size w1 wz) a b => border20_calls (N := N) (hTw.below keeps_tri (hz.mono (show B ≤ w1.heap.size by omega))) (by have := hz.size; omega) (by omega) a b
    have htm := hs.tmax
    have hn0 := hs.n0
    have hnm := hs.nmax
    have hd0 : w1.cell? ⟨w.heap.size, 0, none⟩ = some (.int .i64 N) := hk11.cell 0
    have hd1 : w1.cell? ⟨w.heap.size, 1, none⟩ = some (.slice A T.length cap) := hk11.cell 1
    have hgl : w.heap.size + 1 < w1.heap.size := by omega
    obtain ⟨L, hL⟩ : ∃ L, bedges T = L := ⟨_, rfl⟩
    rw [hL] at hbo
    have Hhb := Lib.hid hb; clear hb; have Hhs := Lib.hid hs; clear hs; have Hhk11 := Lib.hid hk11; clear hk11; have Hhk21 := Lib.hid hk21; clear hk21; have HhTw := Lib.hid hTw; clear hTw; have Hhlw := Lib.hid hlw; clear hlw; have Hhbo := Lib.hid hbo; clear hbo; have HhL := Lib.hid hL; clear hL
    go_wp2_with fail
    go_loopw [7] (fun iv wr => ∃ i : Nat, i ≤ l.length ∧ iv = .int .i64 (i : Int) ∧ (∀ e ∈ edgs (l.take i), e ∈ L) ∧ Below w1.heap.size w1 wr) (fun iv _ => l.length - (intOf iv).toNat)
    case atStart => exact ⟨0, by omega, rfl, fun e he => by simp [edgs] at he, Below.refl _ _⟩
    case round =>
      obtain ⟨i, hi, rfl, hpre, hbel⟩ := hrel
      have hz := hbel.size
      have hbelr := hbel1.trans (hbel.mono hbel1.size)
      have hk1r := Hhk11.out.below hbel Hhk11.out.lt
      have hk2r := Hhk21.out.below hbel Hhk21.out.lt
      have d0 : wr.cell? ⟨w.heap.size, 0, none⟩ = some (.int .i64 N) := hk1r.cell 0
      have d1 : wr.cell? ⟨w.heap.size, 1, none⟩ = some (.slice A T.length cap) := hk1r.cell 1
      by_cases hil : i < l.length
      · obtain ⟨p, hp⟩ : ∃ p, l[i]? = some p := ⟨_, List.getElem?_eq_getElem hil⟩
        obtain ⟨b, o, rfl, hb, a1, a2, a3, a4⟩ := (Hhlw.out.below keeps_4 (hbel.mono (show B ≤ w1.heap.size by omega))).p4_at hp
        have hmem := mem_edgs (List.mem_of_getElem? hp)
        have hnext : p.1 ∈ L → p.2 ∈ L → ∀ e ∈ edgs (l.take (i + 1)), e ∈ L := fun h1 h2 e he => by
          rw [edgs_take hp] at he
          rcases List.mem_append.1 he with h3 | h3
          · exact hpre e h3
          · rcases List.mem_cons.1 h3 with rfl | h3
            · exact h1
            · rw [List.mem_singleton.1 h3]; exact h2
        have hbad1 : p.1 ∉ L → placedN (fun e => decide (e ∈ L)) l = 13 := fun h1 => placed_no hmem.1 (decide_eq_false h1)
        have hbad2 : p.2 ∉ L → placedN (fun e => decide (e ∈ L)) l = 13 := fun h1 => placed_no hmem.2 (decide_eq_false h1)
        obtain ⟨⟨x1, x2⟩, x3, x4⟩ := p
        simp only [] at a1 a2 a3 a4 hnext hbad1 hbad2
        have hbw : b < wr.heap.size := by omega
        have hc1 := Hhbo.out wr.drew hbel.drew x1 x2
        clear hmem
        have Hhpre := Lib.hid hpre; clear hpre; have Hhnext := Lib.hid hnext; clear hnext; have Hhbad1 := Lib.hid hbad1; clear hbad1; have Hhbad2 := Lib.hid hbad2; clear hbad2; have Hhc1 := Lib.hid hc1; clear hc1; have Hhk1r := Lib.hid hk1r; clear hk1r; have Hhk2r := Lib.hid hk2r; clear hk2r
        go_wp2_with fail
        refine Go.Canon.wp_region_text mixed (by kernel_rfl) ?_
        go_wp2_with fail
        refine Hhc1.out.mono ?_
        rintro e w2 ⟨rfl, hb3⟩
        have hbel2 := hbel.drew.trans (hb3.mono hz)
        have hbel2r := hbelr.drew.trans (hb3.mono hbelr.size)
        by_cases h1 : (x1, x2) ∈ L
        · rw [decide_eq_true h1]
          have hc2 := Hhbo.out w2 hbel2 x3 x4
          have f0 := (hb3.cell (p := ⟨w.heap.size, 0, none⟩) (by show w.heap.size < wr.heap.size; omega)).trans d0
          have f1 := (hb3.cell (p := ⟨w.heap.size, 1, none⟩) (by show w.heap.size < wr.heap.size; omega)).trans d1
          have q3 := (hb3.cell (p := ⟨b, o + i * 4 + 2, none⟩) (by show b < wr.heap.size; exact hbw)).trans a3
          have q4 := (hb3.cell (p := ⟨b, o + i * 4 + 3, none⟩) (by show b < wr.heap.size; exact hbw)).trans a4
          have Hh1 := Lib.hid h1; clear h1; have Hhc2 := Lib.hid hc2; clear hc2
          go_wp2_with fail
          refine Hhc2.out.mono ?_
          rintro e w3 ⟨rfl, hb4⟩
          have hbel3 := hbel2.trans (hb4.mono hbel2.size)
          have hbel3r := hbel2r.trans (hb4.mono hbel2r.size)
          by_cases h2 : (x3, x4) ∈ L
          · rw [decide_eq_true h2]
            have hx := Hhnext.out Hh1.out h2
            have Hh2 := Lib.hid h2; clear h2; have Hhx := Lib.hid hx; clear hx
            go_wp2_with fail
            refine Go.Canon.chk (by rfl) ?_
            go_wp2_with fail
            exact ⟨⟨i + 1, by omega, by simp, Hhx.out, hbel3⟩, by simp [intOf]; omega⟩
          · rw [decide_eq_false h2]
            have hx := Hhbad2.out h2
            have hk23 := Hhk21.out.below hbel3 Hhk21.out.lt
            have hf1 := hk23.frozen
            have he0 : w3.cell? ⟨w.heap.size + 1, 0, none⟩ = some (.int .i64 0) := hk23.cell 0
            have he1 : w3.cell? ⟨w.heap.size + 1, 1, none⟩ = some (.slice none 0 0) := hk23.cell 1
            have hbf := (hbel3r.setCell (p := ⟨w.heap.size + 1, 0, none⟩) (by simp) (.int .i64 0)).setCell (p := ⟨w.heap.size + 1, 1, none⟩) (by simp) (.slice none 0 0)
            have hkf := (hk23.set 0 (.int .i64 0)).set 1 (.slice none 0 0)
            have Hhbf := Lib.hid hbf; clear hbf; have Hhkf := Lib.hid hkf; clear hkf
            have Hh2 := Lib.hid h2; clear h2; have Hhx := Lib.hid hx; clear hx; have Hhk23 := Lib.hid hk23; clear hk23
            go_wp2_with fail
            refine Go.Canon.chk (by rfl) ?_
            go_wp2_with fail
            refine ret_ctt rfl rfl Hhkf.out Try.underlying24 rfl (by kernel_rfl) rfl ⟨⟨_, _, _, rfl, .inr (.inl ⟨Hhs.out, ?_, by decide, rfl, rfl⟩)⟩, Hhbf.out⟩
            rw [HhL.out]; exact Hhx.out.symm
        · rw [decide_eq_false h1]
          have hx := Hhbad1.out h1
          have hk23 := Hhk21.out.below hbel2 Hhk21.out.lt
          have hf1 := hk23.frozen
          have he0 : w2.cell? ⟨w.heap.size + 1, 0, none⟩ = some (.int .i64 0) := hk23.cell 0
          have he1 : w2.cell? ⟨w.heap.size + 1, 1, none⟩ = some (.slice none 0 0) := hk23.cell 1
          have hbf := (hbel2r.setCell (p := ⟨w.heap.size + 1, 0, none⟩) (by simp) (.int .i64 0)).setCell (p := ⟨w.heap.size + 1, 1, none⟩) (by simp) (.slice none 0 0)
          have hkf := (hk23.set 0 (.int .i64 0)).set 1 (.slice none 0 0)
          have Hhbf := Lib.hid hbf; clear hbf; have Hhkf := Lib.hid hkf; clear hkf
          have Hh1 := Lib.hid h1; clear h1; have Hhx := Lib.hid hx; clear hx; have Hhk23 := Lib.hid hk23; clear hk23
          go_wp2_with fail
          refine Go.Canon.chk (by rfl) ?_
          go_wp2_with fail
          refine ret_ctt rfl rfl Hhkf.out Try.underlying24 rfl (by kernel_rfl) rfl ⟨⟨_, _, _, rfl, .inr (.inl ⟨Hhs.out, ?_, by decide, rfl, rfl⟩)⟩, Hhbf.out⟩
          rw [HhL.out]; exact Hhx.out.symm
      · obtain rfl : i = l.length := by omega
        rw [List.take_length] at hpre
        have htw := twice20_calls (w := wr) (Hhlw.out.below keeps_4 (hbel.mono (show B ≤ w1.heap.size by omega))) (by omega) (by omega)
        have Hhpre := Lib.hid hpre; clear hpre; have Hhtw := Lib.hid htw; clear htw; have Hhk1r := Lib.hid hk1r; clear hk1r; have Hhk2r := Lib.hid hk2r; clear hk2r
        go_wp2_with fail
        refine Hhtw.out.mono ?_
        rintro e w6 ⟨rfl, hb7⟩
        have hbel6 := hbelr.trans (hb7.mono hbelr.size)
        have hbelw := hbel.trans (hb7.mono hz)
        have hz6 := hbelw.size
        have hk16 := Hhk1r.out.below hb7 Hhk1r.out.lt
        have hk26 := Hhk2r.out.below hb7 Hhk2r.out.lt
        by_cases hnd : (edgs l).Nodup
        case neg =>
          rw [decide_eq_true hnd]
          have hx : placedN (fun e => decide (e ∈ L)) l = 9 := placed_twice (List.all_eq_true.2 fun e he => decide_eq_true (Hhpre.out e he)) hnd
          have hf1 := hk26.frozen
          have he0 : w6.cell? ⟨w.heap.size + 1, 0, none⟩ = some (.int .i64 0) := hk26.cell 0
          have he1 : w6.cell? ⟨w.heap.size + 1, 1, none⟩ = some (.slice none 0 0) := hk26.cell 1
          have hbf := (hbel6.setCell (p := ⟨w.heap.size + 1, 0, none⟩) (by simp) (.int .i64 0)).setCell (p := ⟨w.heap.size + 1, 1, none⟩) (by simp) (.slice none 0 0)
          have hkf := (hk26.set 0 (.int .i64 0)).set 1 (.slice none 0 0)
          have Hhbf := Lib.hid hbf; clear hbf; have Hhkf := Lib.hid hkf; clear hkf
          have Hhnd := Lib.hid hnd; clear hnd; have Hhx := Lib.hid hx; clear hx; have Hhk16 := Lib.hid hk16; clear hk16; have Hhk26 := Lib.hid hk26; clear hk26
          go_wp2_with fail
          refine ret_ctt rfl rfl Hhkf.out Try.underlying24 rfl (by kernel_rfl) rfl ⟨⟨_, _, _, rfl, .inr (.inl ⟨Hhs.out, ?_, by decide, rfl, rfl⟩)⟩, Hhbf.out⟩
          rw [HhL.out]; exact Hhx.out.symm
        case pos =>
          rw [decide_eq_false (fun h9 => h9 hnd)]
          have hpz : placedN (fun e => decide (e ∈ L)) l = 0 := placed_ok (List.all_eq_true.2 fun e he => decide_eq_true (Hhpre.out e he)) hnd
          have c06 : w6.cell? ⟨w.heap.size, 0, none⟩ = some (.int .i64 N) := hk16.cell 0
          have c16 : w6.cell? ⟨w.heap.size, 1, none⟩ = some (.slice A T.length cap) := hk16.cell 1
          have hv4 : ∀ p ∈ l, (0 ≤ p.1.1 ∧ p.1.1 < N) ∧ (0 ≤ p.1.2 ∧ p.1.2 < N) ∧ (0 ≤ p.2.1 ∧ p.2.1 < N) ∧ (0 ≤ p.2.2 ∧ p.2.2 < N) := fun p hp => by
            have q1 := Hhpre.out _ (mem_edgs hp).1
            have q2 := Hhpre.out _ (mem_edgs hp).2
            rw [← HhL.out] at q1 q2
            obtain ⟨c1, g1, _, g2⟩ := mem_bedges.1 q1
            obtain ⟨c2, g3, _, g4⟩ := mem_bedges.1 q2
            rw [← g2, ← g4]
            exact ⟨Hhs.out.rng _ (nx_lt g1), Hhs.out.rng _ (pv_lt g1), Hhs.out.rng _ (nx_lt g3), Hhs.out.rng _ (pv_lt g3)⟩
          obtain ⟨n, hNn⟩ : ∃ n : Nat, N = n := ⟨N.toNat, by omega⟩
          have hn4 : n ≤ 4096 := by omega
          rw [hNn] at c06 hv4
          have hEr : ∀ e ∈ edP l, 0 ≤ e.1 ∧ e.1 < n ∧ 0 ≤ e.2 ∧ e.2 < n := fun e he => by
            obtain ⟨p, hp, h1 | h1⟩ := mem_edP he
            · have := hv4 p hp; rw [h1]; exact ⟨this.1.1, this.1.2, this.2.2.2.1, this.2.2.2.2⟩
            · have := hv4 p hp; rw [h1]; exact ⟨this.2.1.1, this.2.1.2, this.2.2.1.1, this.2.2.1.2⟩
          have hTw6 := HhTw.out.below keeps_tri (hbelw.mono (show B ≤ w1.heap.size by omega))
          have hlw6 := Hhlw.out.below keeps_4 (hbelw.mono (show B ≤ w1.heap.size by omega))
          have hB6 : B ≤ w6.heap.size := by omega
          have hm1 := run_make_rep (P := Try.prog) 27 Try.underlying27 info_int rfl n (by omega) (by omega)
          have hkR := Bk.new w6 3 (List.replicate n (.int .i64 0))
          rw [List.toArray_replicate] at hkR
          have hb8 := (Below.refl w6.heap.size w6).alloc (Nat.le_refl _) (.cells (Array.replicate n (Value.int .i64 0)) 3)
          have htz : (tabL (fun v => (v : Int)) 0 n).map (Value.int .i64) = List.replicate n (.int .i64 0) := by rw [tabL_zero, List.map_replicate]
          rw [← htz] at hkR
          have Hhk16 := Lib.hid hk16; clear hk16; have Hhk26 := Lib.hid hk26; clear hk26; have Hhpz := Lib.hid hpz; clear hpz; have Hhnd := Lib.hid hnd; clear hnd; have Hhv4 := Lib.hid hv4; clear hv4; have HhEr := Lib.hid hEr; clear hEr; have HhTw6 := Lib.hid hTw6; clear hTw6; have Hhlw6 := Lib.hid hlw6; clear hlw6; have HhkR := Lib.hid hkR; clear hkR; have Hhb8 := Lib.hid hb8; clear hb8; have Hhtz := Lib.hid htz; clear htz; have HhNn := Lib.hid hNn; clear hNn
          go_wp2_with fail
          clear hm1
          go_loopw [9] (fun iv wr => ∃ k : Nat, k ≤ n ∧ iv = .int .i64 (k : Int) ∧ Bk wr w6.heap.size 3 ((tabL (fun v => (v : Int)) k n).map (Value.int .i64)) ∧ Below w6.heap.size w6 wr) (fun iv _ => n - (intOf iv).toNat)
          case atStart => exact ⟨0, by omega, rfl, HhkR.out, Hhb8.out⟩
          case round =>
            obtain ⟨k, hk, rfl, hkRr, hbr⟩ := hrel
            have hzr := hbr.size
            have hlr := hkRr.lt
            have d0 := (hbr.cell (p := ⟨w.heap.size, 0, none⟩) (by show w.heap.size < _; omega)).trans c06
            have d1 := (hbr.cell (p := ⟨w.heap.size, 1, none⟩) (by show w.heap.size < _; omega)).trans c16
            by_cases hkn : k < n
            · have ck := hkRr.cell k
              rw [List.getElem?_map, tabL_at _ _ hkn, Option.map_some] at ck
              generalize (if k < k then ((fun v : Nat => (v : Int)) k) else 0) = old at *
              have fk := hkRr.frozen k
              have hkR2 := hkRr.set k (.int .i64 (k : Int))
              rw [← List.map_set, tabL_set (fun v : Nat => (v : Int)) hkn] at hkR2
              have hb9 := hbr.setCell (p := ⟨w6.heap.size, k, none⟩) (Nat.le_refl _) (.int .i64 (k : Int))
              have HhkRr := Lib.hid hkRr; clear hkRr; have HhkR2 := Lib.hid hkR2; clear hkR2; have Hhb9 := Lib.hid hb9; clear hb9
              go_wp2_with fail
              exact ⟨⟨k + 1, by omega, by simp, HhkR2.out, Hhb9.out⟩, by simp [intOf]; omega⟩
            · obtain rfl : k = n := by omega
              obtain ⟨w7, hw7⟩ : ∃ w7, w7 = wr := ⟨_, rfl⟩
              subst hw7
              rw [tabL_full] at hkRr
              change Bk w7 w6.heap.size 3 ((valL (rnds (edP l) 0) k).map (Value.int .i64)) at hkRr
              have HhkRr := Lib.hid hkRr; clear hkRr
              go_wp2_with fail
              go_loopw [10] (fun iv wz => ∃ r : Nat, r ≤ k ∧ iv = .int .i64 (r : Int) ∧ Bk wz w6.heap.size 3 ((valL (rnds (edP l) r) k).map (Value.int .i64)) ∧ Below w6.heap.size w6 wz) (fun iv _ => k - (intOf iv).toNat)
              case atStart => exact ⟨0, by omega, rfl, HhkRr.out, hbr⟩
              case round =>
                obtain ⟨r, hr, rfl, hkz, hbz⟩ := hrel
                have hzz := hbz.size
                have d0 := (hbz.cell (p := ⟨w.heap.size, 0, none⟩) (by show w.heap.size < _; omega)).trans c06
                have d1 := (hbz.cell (p := ⟨w.heap.size, 1, none⟩) (by show w.heap.size < _; omega)).trans c16
                obtain ⟨w8, hw8⟩ : ∃ w8, w8 = wr := ⟨_, rfl⟩
                subst hw8
                by_cases hrk : r < k
                · change Bk w8 w6.heap.size 3 ((valL (rnd (edP (l.take 0)) (rnds (edP l) r)) k).map (Value.int .i64)) at hkz
                  have hRs : rnds (edP l) (r + 1) = rnd (edP (l.take l.length)) (rnds (edP l) r) := by rw [List.take_length]; rfl
                  generalize rnds (edP l) r = O0 at *
                  have Hhkz := Lib.hid hkz; clear hkz; have HhRs := Lib.hid hRs; clear hRs
                  go_wp2_with fail
                  go_loopw [11] (fun iv wz => ∃ i : Nat, i ≤ l.length ∧ iv = .int .i64 (i : Int) ∧ Bk wz w6.heap.size 3 ((valL (rnd (edP (l.take i)) O0) k).map (Value.int .i64)) ∧ Below w6.heap.size w6 wz) (fun iv _ => l.length - (intOf iv).toNat)
                  case atStart => exact ⟨0, by omega, rfl, Hhkz.out, hbz⟩
                  case round =>
                    obtain ⟨i, hi, rfl, hky, hby⟩ := hrel
                    have hzy := hby.size
                    obtain ⟨w9, hw9⟩ : ∃ w9, w9 = wr := ⟨_, rfl⟩
                    subst hw9
                    by_cases hil : i < l.length
                    · obtain ⟨p, hp⟩ : ∃ p, l[i]? = some p := ⟨_, List.getElem?_eq_getElem hil⟩
                      have hv := Hhv4.out p (List.mem_of_getElem? hp)
                      have hrt := rnd_take hp O0
                      generalize rnd (edP (l.take i)) O0 = O1 at *
                      obtain ⟨⟨x1, x2⟩, x3, x4⟩ := p
                      simp only [] at hv hrt
                      obtain ⟨⟨p1, q1⟩, ⟨p2, q2⟩, ⟨p3, q3⟩, p4, q4⟩ := hv
                      obtain ⟨n1, rfl⟩ : ∃ m : Nat, x1 = (m : Int) := ⟨x1.toNat, by omega⟩
                      obtain ⟨n2, rfl⟩ : ∃ m : Nat, x2 = (m : Int) := ⟨x2.toNat, by omega⟩
                      obtain ⟨n3, rfl⟩ : ∃ m : Nat, x3 = (m : Int) := ⟨x3.toNat, by omega⟩
                      obtain ⟨n4, rfl⟩ : ∃ m : Nat, x4 = (m : Int) := ⟨x4.toNat, by omega⟩
                      have hpc := fun wz (hz : Below w6.heap.size w6 wz) => (Hhlw6.out.below keeps_4 (hz.mono hB6)).p4_at hp
                      obtain ⟨b, o, rfl, hb, _⟩ := hpc w9 hby
                      have hpc : ∀ wz, Below w6.heap.size w6 wz → wz.cell? ⟨b, o + i * 4, none⟩ = some (.int .i64 (n1 : Int)) ∧ wz.cell? ⟨b, o + i * 4 + 1, none⟩ = some (.int .i64 (n2 : Int)) ∧ wz.cell? ⟨b, o + i * 4 + 2, none⟩ = some (.int .i64 (n3 : Int)) ∧ wz.cell? ⟨b, o + i * 4 + 3, none⟩ = some (.int .i64 (n4 : Int)) := fun wz hz => by
                        obtain ⟨b9, o9, e9, _, h1, h2, h3, h4⟩ := hpc wz hz
                        injection e9 with e9; injection e9 with e9 e8 _; subst e9; subst e8
                        exact ⟨h1, h2, h3, h4⟩
                      have hbne : b < w6.heap.size := by omega
                      have Hhky := Lib.hid hky; clear hky; have Hhrt := Lib.hid hrt; clear hrt; have Hhpc := Lib.hid hpc; clear hpc
                      go_wp2_with fail
                      go_loopw [12] (fun kv wz => ∃ m : Nat, m ≤ 2 ∧ kv = .int .i64 (m : Int) ∧ Bk wz w6.heap.size 3 ((valL (if m = 0 then O1 else if m = 1 then stp O1 (n1 : Int) (n4 : Int) else stp (stp O1 (n1 : Int) (n4 : Int)) (n2 : Int) (n3 : Int)) k).map (Value.int .i64)) ∧ Below w6.heap.size w6 wz) (fun kv _ => 2 - (intOf kv).toNat)
                      case atStart => exact ⟨0, by omega, rfl, Hhky.out, hby⟩
                      case round =>
                        obtain ⟨m, hm, rfl, hkx, hbx⟩ := hrel
                        have hzx := hbx.size
                        have hlx := hkx.lt
                        obtain ⟨a1, a2, a3, a4⟩ := Hhpc.out wr hbx
                        have hm3 : m = 0 ∨ m = 1 ∨ m = 2 := by omega
                        have hkn := Value.int
                        clear hkn
                        rcases hm3 with rfl | rfl | rfl
                        · rw [if_pos rfl] at hkx
                          have ox := hkx.cell n1
                          rw [List.getElem?_map, valL_at _ (show n1 < k by omega), Option.map_some] at ox
                          have oy := hkx.cell n4
                          rw [List.getElem?_map, valL_at _ (show n4 < k by omega), Option.map_some] at oy
                          have hvs : ∀ m : Int, m = min (O1 (n1 : Int)) (O1 (n4 : Int)) → ((valL O1 k).set n1 m).set n4 m = valL (stp O1 (n1 : Int) (n4 : Int)) k := fun m h9 => valL_stp O1 (by omega) (by omega) h9
                          have ff := hkx.frozen
                          have hln : ((valL O1 k).map (Value.int .i64)).length = k := by unfold valL; rw [List.length_map, List.length_map, List.length_range]
                          generalize O1 (n1 : Int) = u at *
                          generalize O1 (n4 : Int) = v at *
                          by_cases hlt : v < u
                          · have hk2 := (hkx.set n1 (.int .i64 v)).set n4 (.int .i64 v)
                            rw [← List.map_set, ← List.map_set, hvs _ (by omega)] at hk2
                            have hb2 := (hbx.setCell (p := ⟨w6.heap.size, n1, none⟩) (Nat.le_refl _) (.int .i64 v)).setCell (p := ⟨w6.heap.size, n4, none⟩) (Nat.le_refl _) (.int .i64 v)
                            obtain ⟨vv, ky⟩ : ∃ vv, (wr.setCell ⟨w6.heap.size, n1, none⟩ (.int .i64 v)).cell? ⟨w6.heap.size, n4, none⟩ = some vv := ⟨_, ((hkx.set n1 (.int .i64 v)).cell n4).trans (List.getElem?_eq_getElem (by rw [List.length_set, hln]; omega))⟩
                            have fy := (hkx.set n1 (.int .i64 v)).frozen
                            clear hln
                            have Hhkx := Lib.hid hkx; clear hkx; have Hhvs := Lib.hid hvs; clear hvs; have Hhk2 := Lib.hid hk2; clear hk2; have Hhb2 := Lib.hid hb2; clear hb2
                            go_wp2_with fail
                            refine Go.Canon.wp_region_text mixed (by kernel_rfl) ?_
                            go_wp2_with fail
                            refine Go.Canon.chk (by rfl) ?_
                            go_wp2_with fail
                            all_goals first | (exfalso; omega) | skip
                            exact ⟨⟨1, by omega, by simp, Hhk2.out.drew, Hhb2.out.drew⟩, by first | (simp [intOf]; done) | (simp [intOf]; omega)⟩
                          · have hk2 := (hkx.set n1 (.int .i64 u)).set n4 (.int .i64 u)
                            rw [← List.map_set, ← List.map_set, hvs _ (by omega)] at hk2
                            have hb2 := (hbx.setCell (p := ⟨w6.heap.size, n1, none⟩) (Nat.le_refl _) (.int .i64 u)).setCell (p := ⟨w6.heap.size, n4, none⟩) (Nat.le_refl _) (.int .i64 u)
                            obtain ⟨vv, ky⟩ : ∃ vv, (wr.setCell ⟨w6.heap.size, n1, none⟩ (.int .i64 u)).cell? ⟨w6.heap.size, n4, none⟩ = some vv := ⟨_, ((hkx.set n1 (.int .i64 u)).cell n4).trans (List.getElem?_eq_getElem (by rw [List.length_set, hln]; omega))⟩
                            have fy := (hkx.set n1 (.int .i64 u)).frozen
                            clear hln
                            have Hhkx := Lib.hid hkx; clear hkx; have Hhvs := Lib.hid hvs; clear hvs; have Hhk2 := Lib.hid hk2; clear hk2; have Hhb2 := Lib.hid hb2; clear hb2
                            go_wp2_with fail
                            refine Go.Canon.wp_region_text mixed (by kernel_rfl) ?_
                            go_wp2_with fail
                            refine Go.Canon.chk (by rfl) ?_
                            go_wp2_with fail
                            all_goals first | (exfalso; omega) | skip
                            exact ⟨⟨1, by omega, by simp, Hhk2.out.drew, Hhb2.out.drew⟩, by first | (simp [intOf]; done) | (simp [intOf]; omega)⟩
                        · rw [if_neg (by decide), if_pos rfl] at hkx
                          generalize stp O1 (n1 : Int) (n4 : Int) = O2 at *
                          have ox := hkx.cell n2
                          rw [List.getElem?_map, valL_at _ (show n2 < k by omega), Option.map_some] at ox
                          have oy := hkx.cell n3
                          rw [List.getElem?_map, valL_at _ (show n3 < k by omega), Option.map_some] at oy
                          have hvs : ∀ m : Int, m = min (O2 (n2 : Int)) (O2 (n3 : Int)) → ((valL O2 k).set n2 m).set n3 m = valL (stp O2 (n2 : Int) (n3 : Int)) k := fun m h9 => valL_stp O2 (by omega) (by omega) h9
                          have ff := hkx.frozen
                          have hln : ((valL O2 k).map (Value.int .i64)).length = k := by unfold valL; rw [List.length_map, List.length_map, List.length_range]
                          generalize O2 (n2 : Int) = u at *
                          generalize O2 (n3 : Int) = v at *
                          by_cases hlt : v < u
                          · have hk2 := (hkx.set n2 (.int .i64 v)).set n3 (.int .i64 v)
                            rw [← List.map_set, ← List.map_set, hvs _ (by omega)] at hk2
                            have hb2 := (hbx.setCell (p := ⟨w6.heap.size, n2, none⟩) (Nat.le_refl _) (.int .i64 v)).setCell (p := ⟨w6.heap.size, n3, none⟩) (Nat.le_refl _) (.int .i64 v)
                            obtain ⟨vv, ky⟩ : ∃ vv, (wr.setCell ⟨w6.heap.size, n2, none⟩ (.int .i64 v)).cell? ⟨w6.heap.size, n3, none⟩ = some vv := ⟨_, ((hkx.set n2 (.int .i64 v)).cell n3).trans (List.getElem?_eq_getElem (by rw [List.length_set, hln]; omega))⟩
                            have fy := (hkx.set n2 (.int .i64 v)).frozen
                            clear hln
                            have Hhkx := Lib.hid hkx; clear hkx; have Hhvs := Lib.hid hvs; clear hvs; have Hhk2 := Lib.hid hk2; clear hk2; have Hhb2 := Lib.hid hb2; clear hb2
                            go_wp2_with fail
                            refine Go.Canon.wp_region_text mixed (by kernel_rfl) ?_
                            go_wp2_with fail
                            refine Go.Canon.chk (by rfl) ?_
                            go_wp2_with fail
                            all_goals first | (exfalso; omega) | skip
                            exact ⟨⟨2, by omega, by simp, Hhk2.out.drew, Hhb2.out.drew⟩, by first | (simp [intOf]; done) | (simp [intOf]; omega)⟩
                          · have hk2 := (hkx.set n2 (.int .i64 u)).set n3 (.int .i64 u)
                            rw [← List.map_set, ← List.map_set, hvs _ (by omega)] at hk2
                            have hb2 := (hbx.setCell (p := ⟨w6.heap.size, n2, none⟩) (Nat.le_refl _) (.int .i64 u)).setCell (p := ⟨w6.heap.size, n3, none⟩) (Nat.le_refl _) (.int .i64 u)
                            obtain ⟨vv, ky⟩ : ∃ vv, (wr.setCell ⟨w6.heap.size, n2, none⟩ (.int .i64 u)).cell? ⟨w6.heap.size, n3, none⟩ = some vv := ⟨_, ((hkx.set n2 (.int .i64 u)).cell n3).trans (List.getElem?_eq_getElem (by rw [List.length_set, hln]; omega))⟩
                            have fy := (hkx.set n2 (.int .i64 u)).frozen
                            clear hln
                            have Hhkx := Lib.hid hkx; clear hkx; have Hhvs := Lib.hid hvs; clear hvs; have Hhk2 := Lib.hid hk2; clear hk2; have Hhb2 := Lib.hid hb2; clear hb2
                            go_wp2_with fail
                            refine Go.Canon.wp_region_text mixed (by kernel_rfl) ?_
                            go_wp2_with fail
                            refine Go.Canon.chk (by rfl) ?_
                            go_wp2_with fail
                            all_goals first | (exfalso; omega) | skip
                            exact ⟨⟨2, by omega, by simp, Hhk2.out.drew, Hhb2.out.drew⟩, by first | (simp [intOf]; done) | (simp [intOf]; omega)⟩
                        · rw [if_neg (by decide), if_neg (by decide), ← Hhrt.out] at hkx
                          have Hhkx := Lib.hid hkx; clear hkx
                          go_wp2_with fail
                          exact ⟨⟨i + 1, by omega, by simp, Hhkx.out, hbx⟩, by simp [intOf]; omega⟩
                    · obtain rfl : i = l.length := by omega
                      rw [← HhRs.out] at hky
                      have Hhky := Lib.hid hky; clear hky
                      go_wp2_with fail
                      exact ⟨⟨r + 1, by omega, by simp, Hhky.out, hby⟩, by simp [intOf]; omega⟩
                · obtain rfl : r = k := by omega
                  have hLab := labE_lab (edP l)
                  have h0 := labE_nonneg (E := edP l) fun e he => ⟨(HhEr.out e he).1, (HhEr.out e he).2.2.1⟩
                  have hra := rnds_all HhEr.out
                  have hvv : valL (rnds (edP l) r) r = valL (labE (edP l)) r := by
                    unfold valL
                    exact List.map_congr_left fun v hv => hra v (List.mem_range.1 hv)
                  rw [hvv] at hkz
                  obtain ⟨G, hG⟩ : ∃ G, labE (edP l) = G := ⟨_, rfl⟩
                  rw [hG] at hkz hLab h0
                  clear hra hvv
                  have hm1 := run_make_rep (P := Try.prog) 27 Try.underlying27 info_int rfl r (by omega) (by omega)
                  have hkO := Bk.new w8 3 (List.replicate r (.int .i64 0))
                  rw [List.toArray_replicate] at hkO
                  have hkz2 := hkz.alloc (.cells (Array.replicate r (Value.int .i64 0)) 3)
                  have hb14 := (Below.refl w8.heap.size w8).alloc (Nat.le_refl _) (.cells (Array.replicate r (Value.int .i64 0)) 3)
                  have htz2 : (tabL (fun u => numL G (u : Int)) 0 r).map (Value.int .i64) = List.replicate r (.int .i64 0) := by rw [tabL_zero, List.map_replicate]
                  rw [← htz2] at hkO
                  have hzk := hkz.lt
                  have Hhkz := Lib.hid hkz; clear hkz; have HhLab := Lib.hid hLab; clear hLab; have Hh0 := Lib.hid h0; clear h0; have HhkO := Lib.hid hkO; clear hkO; have Hhkz2 := Lib.hid hkz2; clear hkz2; have Hhb14 := Lib.hid hb14; clear hb14; have Hhtz2 := Lib.hid htz2; clear htz2; have HhG := Lib.hid hG; clear hG
                  go_wp2_with fail
                  clear hm1
                  go_loopw [17, 18] (fun nv iv wz => ∃ v : Nat, v ≤ r ∧ iv = .int .i64 (v : Int) ∧ nv = .int .i64 (rnk G v : Nat) ∧ Bk wz w8.heap.size 3 ((tabL (fun u => numL G (u : Int)) v r).map (Value.int .i64)) ∧ Bk wz w6.heap.size 3 ((valL G r).map (Value.int .i64)) ∧ Below w8.heap.size w8 wz) (fun _ iv _ => r - (intOf iv).toNat)
                  case atStart => exact ⟨0, by omega, rfl, rfl, HhkO.out, Hhkz2.out, Hhb14.out⟩
                  case round =>
                    obtain ⟨v, hv, rfl, rfl, kO, kV, hbv⟩ := hrel
                    have hzv := hbv.size
                    have hOl := kO.lt
                    have hVl := kV.lt
                    have e0 := (hbv.cell (p := ⟨w.heap.size, 0, none⟩) (by show w.heap.size < _; omega)).trans d0
                    have e1 := (hbv.cell (p := ⟨w.heap.size, 1, none⟩) (by show w.heap.size < _; omega)).trans d1
                    by_cases hvk : v < r
                    · have hle := HhLab.out.le v
                      have hid := HhLab.out.idem v
                      have hge := Hh0.out v (by omega)
                      have hrs := rnk_succ G v
                      have hset := tabL_set (fun u => numL G (u : Int)) hvk
                      have hnv : numL G (v : Int) = ((rnk G (G (v : Int)).toNat : Nat) : Int) := rfl
                      have cV := kV.cell v
                      rw [List.getElem?_map, valL_at _ hvk, Option.map_some] at cV
                      have cO := kO.cell v
                      rw [List.getElem?_map, tabL_at _ _ hvk, Option.map_some] at cO
                      generalize (if v < v then (fun u : Nat => numL G (u : Int)) v else 0) = old at *
                      have fO := kO.frozen v
                      obtain ⟨a, ha⟩ : ∃ a : Nat, G (v : Int) = a := ⟨(G v).toNat, by omega⟩
                      have hat := tabL_at (fun u => numL G (u : Int)) v (v := a) (n := r) (by omega)
                      have hna : numL G (a : Int) = numL G (v : Int) := by unfold numL; rw [← ha, hid]
                      rw [ha] at hle hge hnv cV
                      rw [Int.toNat_natCast] at hnv
                      by_cases hav : a = v
                      · subst hav
                        rw [if_pos ha] at hrs
                        have hset2 : (tabL (fun u => numL G (u : Int)) a r).set a ((rnk G a : Nat) : Int) = tabL (fun u => numL G (u : Int)) (a + 1) r := by rw [← hnv]; exact hset
                        have hrs2 : ((rnk G (a + 1) : Nat) : Int) = ((rnk G a : Nat) : Int) + 1 := by rw [hrs]; rfl
                        have hab : ((a : Int) == (a : Int)) = true := beq_self_eq_true _
                        have hro : ((rnk G a : Nat) : Int) + 1 ≤ 5000 := by have := rnk_le G a; omega
                        clear hrs hnv hna hset
                        generalize rnk G a = rv at *
                        have kO2 := kO.set a (.int .i64 (rv : Int))
                        rw [← List.map_set, hset2] at kO2
                        have kV2 := kV.far (p := ⟨w8.heap.size, a, none⟩) (by show w6.heap.size ≠ w8.heap.size; omega) (.int .i64 (rv : Int))
                        have hb2 := hbv.setCell (p := ⟨w8.heap.size, a, none⟩) (Nat.le_refl _) (.int .i64 (rv : Int))
                        have HkO := Lib.hid kO; clear kO; have HkV := Lib.hid kV; clear kV; have Hhat := Lib.hid hat; clear hat; have Hhset2 := Lib.hid hset2; clear hset2; have Hhrs2 := Lib.hid hrs2; clear hrs2; have Hha := Lib.hid ha; clear ha; have Hhid := Lib.hid hid; clear hid; have HkO2 := Lib.hid kO2; clear kO2; have HkV2 := Lib.hid kV2; clear kV2; have Hhb2 := Lib.hid hb2; clear hb2
                        go_wp2_with fail
                        exact ⟨⟨a + 1, by omega, by simp, by rw [Hhrs2.out], HkO2.out, HkV2.out, Hhb2.out⟩, by simp [intOf]; omega⟩
                      · rw [if_neg (by rw [ha]; omega)] at hrs
                        have hal : a < v := by omega
                        rw [if_pos hal, hna] at hat
                        have hab : ((a : Int) == (v : Int)) = false := by rw [beq_eq_false_iff_ne]; omega
                        have hrs2 : rnk G (v + 1) = rnk G v := by omega
                        clear hrs hnv hna
                        have cA := kO.cell a
                        rw [List.getElem?_map, hat, Option.map_some] at cA
                        generalize numL G (v : Int) = nv at *
                        have kO2 := kO.set v (.int .i64 nv)
                        rw [← List.map_set, hset] at kO2
                        have kV2 := kV.far (p := ⟨w8.heap.size, v, none⟩) (by show w6.heap.size ≠ w8.heap.size; omega) (.int .i64 nv)
                        have hb2 := hbv.setCell (p := ⟨w8.heap.size, v, none⟩) (Nat.le_refl _) (.int .i64 nv)
                        have HkO := Lib.hid kO; clear kO; have HkV := Lib.hid kV; clear kV; have Hhat := Lib.hid hat; clear hat; have Hhset := Lib.hid hset; clear hset; have Hhrs2 := Lib.hid hrs2; clear hrs2; have Hha := Lib.hid ha; clear ha; have Hhid := Lib.hid hid; clear hid; have HkO2 := Lib.hid kO2; clear kO2; have HkV2 := Lib.hid kV2; clear kV2; have Hhb2 := Lib.hid hb2; clear hb2
                        go_wp2_with fail
                        exact ⟨⟨v + 1, by omega, by simp, by rw [Hhrs2.out], HkO2.out, HkV2.out, Hhb2.out⟩, by simp [intOf]; omega⟩
                    · obtain rfl : v = r := by omega
                      rw [tabL_full] at kO
                      change Bk wr w8.heap.size 3 ((sewOf G v).map (Value.int .i64)) at kO
                      have hrv : rnk G v ≤ 4096 := Nat.le_trans (rnk_le G v) hn4
                      obtain ⟨rv, hrv2⟩ : ∃ rv, rnk G v = rv := ⟨_, rfl⟩
                      rw [hrv2] at hrv ⊢
                      have hTrng : ∀ t ∈ T, (0 ≤ t.1 ∧ t.1 < (v : Int)) ∧ (0 ≤ t.2.1 ∧ t.2.1 < (v : Int)) ∧ (0 ≤ t.2.2 ∧ t.2.2 < (v : Int)) := fun t ht => by
                        have := surf_tri Hhs.out t ht
                        rw [HhNn.out] at this
                        exact this
                      have kO1 := kO.alloc (.cells #[.int .i64 (rv : Int), .slice none 0 0] 24)
                      have kU := Bk.new wr 24 [.int .i64 (rv : Int), .slice none 0 0]
                      have hb15 := hbv.alloc hzv (.cells #[.int .i64 (rv : Int), .slice none 0 0] 24)
                      obtain ⟨gU, hgU⟩ : ∃ gU, wr.heap.size = gU := ⟨_, rfl⟩
                      have hgU1 : w8.heap.size < gU := by omega
                      obtain ⟨w12, hw12⟩ : ∃ w12, w12 = wr.alloc (.cells #[.int .i64 (rv : Int), .slice none 0 0] 24) := ⟨_, rfl⟩
                      have hz12 : w12.heap.size = gU + 1 := by rw [hw12, ← hgU]; simp
                      rw [← hw12] at kO1 kU hb15
                      rw [hgU] at kU
                      have HkO := Lib.hid kO; clear kO; have HkV := Lib.hid kV; clear kV; have Hhrv2 := Lib.hid hrv2; clear hrv2; have HhTrng := Lib.hid hTrng; clear hTrng; have HkO1 := Lib.hid kO1; clear kO1; have HkU := Lib.hid kU; clear kU; have Hhb15 := Lib.hid hb15; clear hb15
                      go_wp2_with fail
                      simp only [← hw12]
                      clear hw12
                      have f0 := (Hhb15.out.cell (p := ⟨w.heap.size, 0, none⟩) (by show w.heap.size < _; omega)).trans d0
                      have f1 := (Hhb15.out.cell (p := ⟨w.heap.size, 1, none⟩) (by show w.heap.size < _; omega)).trans d1
                      go_loopw [20] (fun iv wz => ∃ (j : Nat) (rr : Value), j ≤ T.length ∧ iv = .int .i64 (j : Int) ∧ Bk wz gU 24 [.int .i64 (rv : Int), rr] ∧ Bk wz w8.heap.size 3 ((sewOf G v).map (Value.int .i64)) ∧ wz.ownsRow w12.heap.size 57 3 rr j (triVals (sewT G (T.take j))) ∧ Below w8.heap.size w8 wz ∧ w12.heap.size ≤ wz.heap.size) (fun iv _ => T.length - (intOf iv).toNat)
                      case atStart => exact ⟨0, _, by omega, rfl, HkU.out, HkO1.out, World.ownsRow_nil _ _ _ _, Hhb15.out, Nat.le_refl _⟩
                      case round =>
                        obtain ⟨j, rr, hj, rfl, bU, bO, hown, hbw, hzw⟩ := hrel
                        obtain ⟨A5, cap5, rfl, hc5⟩ := own_form hown
                        have u0 : wr.cell? ⟨gU, 0, none⟩ = some (.int .i64 (rv : Int)) := bU.cell 0
                        have u1 : wr.cell? ⟨gU, 1, none⟩ = some (.slice A5 j cap5) := bU.cell 1
                        have hUl2 := bU.lt
                        have g0 := (hbw.cell (p := ⟨w.heap.size, 0, none⟩) (by show w.heap.size < _; omega)).trans d0
                        have g1 := (hbw.cell (p := ⟨w.heap.size, 1, none⟩) (by show w.heap.size < _; omega)).trans d1
                        by_cases hjl2 : j < T.length
                        · obtain ⟨b, o, rfl, hb, t1, t2, t3⟩ := ((HhTw6.out.below keeps_tri (hbz.mono hB6)).below keeps_tri (hbw.mono (by omega))).tri_at hjl2
                          have hrT := HhTrng.out _ (List.getElem_mem hjl2)
                          have htk : triVals (sewT G (T.take (j + 1))) = triVals (sewT G (T.take j)) ++ [.int .i64 (numL G T[j].1), .int .i64 (numL G T[j].2.1), .int .i64 (numL G T[j].2.2)] := by
                            rw [List.take_succ_eq_append_getElem hjl2]
                            unfold sewT
                            rw [List.map_append, List.map_cons, List.map_nil, triVals_snoc]
                          generalize T[j] = x at *
                          obtain ⟨x1, x2, x3⟩ := x
                          simp only [] at t1 t2 t3 htk hrT
                          obtain ⟨⟨p1, q1⟩, ⟨p2, q2⟩, p3, q3⟩ := hrT
                          obtain ⟨n1, rfl⟩ : ∃ m : Nat, x1 = (m : Int) := ⟨x1.toNat, by omega⟩
                          obtain ⟨n2, rfl⟩ : ∃ m : Nat, x2 = (m : Int) := ⟨x2.toNat, by omega⟩
                          obtain ⟨n3, rfl⟩ : ∃ m : Nat, x3 = (m : Int) := ⟨x3.toNat, by omega⟩
                          have hat3 : ∀ m : Nat, m < v → wr.cell? ⟨w8.heap.size, m, none⟩ = some (.int .i64 (numL G (m : Int))) := fun m hm => by
                            rw [bO.cell m, List.getElem?_map]
                            unfold sewOf
                            rw [List.getElem?_map, List.getElem?_range hm]; rfl
                          have o1 := hat3 n1 (by omega)
                          have o2 := hat3 n2 (by omega)
                          have o3 := hat3 n3 (by omega)
                          generalize numL G (n1 : Int) = y1 at *
                          generalize numL G (n2 : Int) = y2 at *
                          generalize numL G (n3 : Int) = y3 at *
                          have hbwb : b < wr.heap.size := by omega
                          have hol : w8.heap.size < wr.heap.size := bO.lt
                          clear hat3
                          obtain ⟨wq, hwq⟩ : ∃ wq, wq = wr.alloc (.cells #[.int .i64 (n1 : Int), .int .i64 (n2 : Int), .int .i64 (n3 : Int)] 57) := ⟨_, rfl⟩
                          have hbq : Below wr.heap.size wr wq := by rw [hwq]; exact (Below.refl _ _).alloc (Nat.le_refl _) _
                          have hkq : Bk wq wr.heap.size 57 [.int .i64 (n1 : Int), .int .i64 (n2 : Int), .int .i64 (n3 : Int)] := by rw [hwq]; exact Bk.new wr _ _
                          have hzq : wr.heap.size < wq.heap.size := by rw [hwq]; simp
                          have qU := bU.below hbq hUl2
                          have qO := bO.below hbq hol
                          have hownq := own_below hown hbq (Nat.le_refl _)
                          have hbwq := hbw.trans (hbq.mono (by omega))
                          have HbU := Lib.hid bU; clear bU; have HbO := Lib.hid bO; clear bO; have Hhown := Lib.hid hown; clear hown; have Hhtk := Lib.hid htk; clear htk; have HqU := Lib.hid qU; clear qU; have HqO := Lib.hid qO; clear qO; have Hhownq := Lib.hid hownq; clear hownq; have Hhkq := Lib.hid hkq; clear hkq
                          go_wp2_with fail
                          rw [← hwq]
                          have q0 : wq.cell? ⟨gU, 0, none⟩ = some (.int .i64 (rv : Int)) := HqU.out.cell 0
                          have q1' : wq.cell? ⟨gU, 1, none⟩ = some (.slice A5 j cap5) := HqU.out.cell 1
                          have r1 := (hbq.cell (p := ⟨w8.heap.size, n1, none⟩) hol).trans o1
                          have r2 := (hbq.cell (p := ⟨w8.heap.size, n2, none⟩) hol).trans o2
                          have r3 := (hbq.cell (p := ⟨w8.heap.size, n3, none⟩) hol).trans o3
                          have s1 : wq.cell? ⟨wr.heap.size, 0, none⟩ = some (.int .i64 (n1 : Int)) := Hhkq.out.cell 0
                          have s2 : wq.cell? ⟨wr.heap.size, 1, none⟩ = some (.int .i64 (n2 : Int)) := Hhkq.out.cell 1
                          have s3 : wq.cell? ⟨wr.heap.size, 2, none⟩ = some (.int .i64 (n3 : Int)) := Hhkq.out.cell 2
                          clear hwq
                          refine Go.Canon.wp_region_last 21 [1] (fun b => b = gU) (.seg [0,1,2,3,4,5,6,7,8,9,10,11,12,13,14,15,16,17] (.alt 18 (.alt 19 (.seg [20] (.alt 21 .fin .no)) .no) .no)) mixed (by kernel_rfl) ?_
                          refine Go.Canon.trm_seg ?_
                          simp only [List.map_cons, List.map_nil, List.getD_cons_zero, List.getD_cons_succ]
                          go_wp2_with fail
                          refine Go.Canon.trm_to (Go.Canon.trm_one ?_)
                          simp only [List.getD_cons_zero, List.getD_cons_succ]
                          go_wp2_with fail
                          refine Go.Canon.trm_end (fun b h9 => by subst h9; exact Below.heap_alloc wq _ _ HqU.out.lt) (Go.Canon.trm_one ?_)
                          simp only [List.getD_cons_zero, List.getD_cons_succ]
                          refine append_block _ rfl _ _ 22 rfl w12.heap.size infoTri Try.underlying22 rfl (by decide) _ j _ rfl ((own_below Hhownq.out (Below.refl _ wq).drew (Nat.le_refl _)).alloc _) wq.heap.size [.int .i64 y1, .int .i64 y2, .int .i64 y3] rfl (Bk.new wq.drew 57 _) rfl (by simp [Value.oneCell']) (by omega) (by decide) (by simp only [World.size_alloc, World.size_drew]; omega) ?_
                          intro v' w15 hown5 hb5 hgrow _
                          obtain ⟨g5, cap6, rfl⟩ := ownsRow_succ hown5
                          have hl5 : ∀ g, g < w12.heap.size → some g ≠ (Value.slice A5 j cap5).ownBlock := fun g hg e => by have := (Hhownq.out.lt g e.symm).1; omega
                          have hl6 : ∀ g, g < w12.heap.size → (Value.slice (some ⟨g5, 0, none⟩) (j + 1) cap6).ownBlock ≠ some g := fun g hg e => by have := (hown5.lt g e).1; omega
                          have b2_5 := (HqU.out.drew.alloc (.cells #[.int .i64 y1, .int .i64 y2, .int .i64 y3] 57)).grown hgrow (hl5 _ (by omega))
                          have b1_5 := (HqO.out.drew.alloc (.cells #[.int .i64 y1, .int .i64 y2, .int .i64 y3] 57)).grown hgrow (hl5 _ (by omega))
                          have hke : Go.Canon.KeepU (fun b => b = gU) wq.drew w15 := fun b h9 => by subst h9; exact b2_5.trans HqU.out.symm
                          have e5 := b2_5.cell 1
                          have f5 := b2_5.frozen 1
                          have hz5 := hb5.size
                          have b2_6 := b2_5.set 1 (.slice (some ⟨g5, 0, none⟩) (j + 1) cap6)
                          have b1_6 := b1_5.far (p := ⟨gU, 1, none⟩) (by simp only; omega) (.slice (some ⟨g5, 0, none⟩) (j + 1) cap6)
                          have hown6 := hown5.kept (row := some gU) (w' := w15.setCell ⟨gU, 1, none⟩ (.slice (some ⟨g5, 0, none⟩) (j + 1) cap6)) ⟨rfl, rfl, rfl, (KeepsWalks.setCell w15 _ _).size, fun b _ hb => Below.heap_setCell _ _ _ b (fun e => hb (by rw [e]))⟩ (.inr (hl6 _ (by omega)))
                          have hbel6 := ((hbwq.drew.alloc (by simp only [World.size_drew]; omega) (.cells #[.int .i64 y1, .int .i64 y2, .int .i64 y3] 57)).trans (hb5.mono (by omega))).setCell (p := ⟨gU, 1, none⟩) (by show w8.heap.size ≤ gU; omega) (.slice (some ⟨g5, 0, none⟩) (j + 1) cap6)
                          simp only [World.size_alloc, World.size_drew] at hz5
                          have Hhown5 := Lib.hid hown5; have Hb2_5 := Lib.hid b2_5; have Hb1_5 := Lib.hid b1_5; have Hb2_6 := Lib.hid b2_6; have Hb1_6 := Lib.hid b1_6; have Hhown6 := Lib.hid hown6; have Hhbel6 := Lib.hid hbel6; have Hhl5 := Lib.hid hl5; have Hhl6 := Lib.hid hl6; have Hhgrow := Lib.hid hgrow; clear hown5 b2_5 b1_5 b2_6 b1_6 hown6 hbel6 hl5 hl6 hgrow
                          refine Go.Canon.trm_end hke (Go.Canon.trm_seg ?_)
                          simp only [List.map_cons, List.map_nil, List.getD_cons_zero, List.getD_cons_succ]
                          go_wp2_with fail
                          refine Go.Canon.trm_to (Go.Canon.trm_one ?_)
                          simp only [List.getD_cons_zero, List.getD_cons_succ]
                          go_wp2_with fail
                          refine Go.Canon.trm_last (Go.Canon.trm_fin (by rfl) (List.forall_mem_cons.2 ⟨.inl ⟨_, rfl, rfl, by rw [World.cell?_drew, q1']; rfl⟩, fun _ h => by cases h⟩) ?_)
                          go_wp2_with fail
                          refine ⟨⟨j + 1, _, by omega, by simp, Hb2_6.out, Hb1_6.out, by rw [Hhtk.out]; exact Hhown6.out, Hhbel6.out, ?_⟩, by simp [intOf]; omega⟩
                          have h8 := (KeepsWalks.setCell w15 ⟨gU, 1, none⟩ (.slice (some ⟨g5, 0, none⟩) (j + 1) cap6)).size
                          omega
                        · obtain rfl : j = T.length := by omega
                          rw [List.take_length] at hown
                          have hlen9 : (sewT G T).length = T.length := by unfold sewT; rw [List.length_map]
                          have hsl := sl_own_tris (T := sewT G T) (by rw [hlen9]; exact hown)
                          obtain ⟨w16, hw16⟩ : ∃ w16, w16 = wr := ⟨_, rfl⟩
                          subst hw16
                          have hci2 := is15_calls (.slice A5 T.length cap5) (rv : Int) (sewT G T) w16 (Nat.le_refl _) hsl (by rw [hlen9]; exact hfew)
                          have hkr6 := (Hhk26.out.below hbz (by omega)).below hbw (by omega)
                          have hbel9 := (hbel6.trans (hbz.mono hbel6.size)).trans (hbw.mono (by omega))
                          have HbU := Lib.hid bU; clear bU; have HbO := Lib.hid bO; clear bO; have Hhown := Lib.hid hown; clear hown; have Hhci2 := Lib.hid hci2; clear hci2; have Hhsl := Lib.hid hsl; clear hsl
                          go_wp2_with fail
                          refine Hhci2.out.mono ?_
                          rintro e w17 ⟨⟨b, rfl, hb⟩, hb18⟩
                          have hkr7 := hkr6.below hb18 (by have := hkr6.lt; exact this)
                          have hbel10 := below_call hbel9 hb18 hbel9.size
                          have hN9 : N.toNat = v := by have := HhNn.out; omega
                          cases b with
                          | false =>
                            have hn : ¬ Surf (rv : Int) (sewT G T) := fun h => by have := hb.2 h; cases this
                            have hf1 := hkr7.frozen
                            have he0 : w17.cell? ⟨w.heap.size + 1, 0, none⟩ = some (.int .i64 0) := hkr7.cell 0
                            have he1 : w17.cell? ⟨w.heap.size + 1, 1, none⟩ = some (.slice none 0 0) := hkr7.cell 1
                            have hbf := (hbel10.setCell (p := ⟨w.heap.size + 1, 0, none⟩) (by simp) (.int .i64 0)).setCell (p := ⟨w.heap.size + 1, 1, none⟩) (by simp) (.slice none 0 0)
                            have hkf := (hkr7.set 0 (.int .i64 0)).set 1 (.slice none 0 0)
                            have Hhbf := Lib.hid hbf; clear hbf; have Hhkf := Lib.hid hkf; clear hkf
                            have Hhb := Lib.hid hb; clear hb; have Hhn := Lib.hid hn; clear hn; have Hhkr6 := Lib.hid hkr6; clear hkr6; have Hhkr7 := Lib.hid hkr7; clear hkr7; have HhN9 := Lib.hid hN9; clear hN9
                            go_wp2_with fail
                            refine ret_ctt rfl rfl Hhkf.out Try.underlying24 rfl (by kernel_rfl) rfl ⟨⟨_, _, _, rfl, .inr (.inr (.inl ⟨Hhs.out, ?_, ?_, rfl, rfl, rfl⟩))⟩, Hhbf.out⟩
                            · rw [HhL.out]; exact Hhpz.out
                            · unfold labP
                              rw [HhG.out, HhN9.out, Hhrv2.out]; exact Hhn.out
                          | true =>
                            have hsf := hb.1 rfl
                            have f1 := hkr7.frozen
                            have g0 : w17.cell? ⟨w.heap.size + 1, 0, none⟩ = some (.int .i64 0) := hkr7.cell 0
                            have g1 : w17.cell? ⟨w.heap.size + 1, 1, none⟩ = some (.slice none 0 0) := hkr7.cell 1
                            have z0 := (hb18.cell (p := ⟨gU, 0, none⟩) hUl2).trans u0
                            have z1 := (hb18.cell (p := ⟨gU, 1, none⟩) hUl2).trans u1
                            have hset : ∀ (wz : World) (i : Nat) (u : Value), wz.grownBy (wz.setCell ⟨w.heap.size + 1, i, none⟩ u) (some (w.heap.size + 1)) := fun wz i u => ⟨rfl, rfl, rfl, (KeepsWalks.setCell wz _ u).size, fun b _ hb => Below.heap_setCell _ _ _ b (fun e => hb (by rw [e]))⟩
                            have hl9 : (Value.slice A5 T.length cap5).ownBlock = none ∨ (Value.slice A5 T.length cap5).ownBlock ≠ some (w.heap.size + 1) := .inr fun e => by have := (Hhown.out.lt _ e).1; omega
                            have hown18 := ((own_below Hhown.out hb18 (Nat.le_refl _)).kept (hset w17 0 (.int .i64 (rv : Int))) hl9).kept (hset _ 1 (.slice A5 T.length cap5)) hl9
                            have hne9 : w8.heap.size ≠ w.heap.size + 1 := by omega
                            have kO18 := ((HbO.out.below hb18 HbO.out.lt).far (p := ⟨w.heap.size + 1, 0, none⟩) hne9 (.int .i64 (rv : Int))).far (p := ⟨w.heap.size + 1, 1, none⟩) hne9 (.slice A5 T.length cap5)
                            have hbf := (hbel10.setCell (p := ⟨w.heap.size + 1, 0, none⟩) (by simp) (.int .i64 (rv : Int))).setCell (p := ⟨w.heap.size + 1, 1, none⟩) (by simp) (.slice A5 T.length cap5)
                            have hkf := (hkr7.set 0 (.int .i64 (rv : Int))).set 1 (.slice A5 T.length cap5)
                            have hsl18 := sl_own_tris (T := sewT G T) (by rw [hlen9]; exact hown18)
                            have hsO := sl_zv kO18
                            have hlO : (sewOf G v).length = v := by unfold sewOf; simp
                            rw [hlO] at hsO
                            clear hset hl9
                            have Hhb := Lib.hid hb; clear hb; have Hhsf := Lib.hid hsf; clear hsf; have Hhbf := Lib.hid hbf; clear hbf; have Hhkf := Lib.hid hkf; clear hkf; have Hhkr6 := Lib.hid hkr6; clear hkr6; have Hhkr7 := Lib.hid hkr7; clear hkr7; have HhN9 := Lib.hid hN9; clear hN9; have Hhown18 := Lib.hid hown18; clear hown18; have HkO18 := Lib.hid kO18; clear kO18; have Hhsl18 := Lib.hid hsl18; clear hsl18; have HhsO := Lib.hid hsO; clear hsO; have HhlO := Lib.hid hlO; clear hlO; have Hhlen9 := Lib.hid hlen9; clear hlen9
                            go_wp2_with fail
                            refine ret_ctt rfl rfl Hhkf.out Try.underlying24 rfl (by kernel_rfl) rfl ⟨⟨_, _, _, rfl, .inr (.inr (.inr ⟨Hhs.out, ?_, ?_, rfl, .slice A5 T.length cap5, ?_, ?_, ?_⟩))⟩, Hhbf.out⟩
                            · rw [HhL.out]; exact Hhpz.out
                            · unfold labP
                              rw [HhG.out, HhN9.out, Hhrv2.out]; exact Hhsf.out
                            · unfold labP
                              rw [HhG.out, HhN9.out, Hhrv2.out]; rfl
                            · unfold labP
                              rw [HhG.out]; exact Hhsl18.out
                            · unfold labP
                              rw [HhG.out, HhN9.out]; exact HhsO.out
end Go.Proofs.Ytdljcemnbbamcaa

namespace Go.Proofs.Ytdljcemnbbamcaa
open Go Go.RowKit Go.Words Go.Mesh

/-- The number with which Sew ends. -/
def CodeIs (N : Int) (T : List T3) (l : List P4) (c : Int) : Prop :=
  (¬ Surf N T ∧ c = 11) ∨ (Surf N T ∧ c = placedN (fun e => decide (e ∈ bedges T)) l ∧ c ≠ 0) ∨
  (Surf N T ∧ placedN (fun e => decide (e ∈ bedges T)) l = 0 ∧ ¬ Surf (rnk (labP l) N.toNat : Nat) (sewT (labP l) T) ∧ c = 11) ∨
  (Surf N T ∧ placedN (fun e => decide (e ∈ bedges T)) l = 0 ∧ Surf (rnk (labP l) N.toNat : Nat) (sewT (labP l) T) ∧ c = 0)
theorem code_one {N : Int} {T : List T3} {l : List P4} {c d : Int} (h : CodeIs N T l c) (h' : CodeIs N T l d) : c = d := by
  rcases h with ⟨a, b⟩ | ⟨a, b, b2⟩ | ⟨a, b, b2, b3⟩ | ⟨a, b, b2, b3⟩ <;> rcases h' with ⟨a', d1⟩ | ⟨a', d1, d2⟩ | ⟨a', d1, d2, d3⟩ | ⟨a', d1, d2, d3⟩
  all_goals first | exact absurd a a' | exact absurd a' a | exact absurd b2 d2 | exact absurd d2 b2 | (rw [b, d1]; done) | (rw [b3, d3]; done) | (exfalso; first | (exact b2 (b.trans d1)) | (exact d2 (d1.trans b)))
theorem end_code {w' : World} {N : Int} {T : List T3} {l : List P4} {x o : Value} {c : Int} (h : SewEnd w' N T l x o c) : CodeIs N T l c := by
  rcases h with ⟨h1, h2, _⟩ | ⟨h1, h2, h3, _⟩ | ⟨h1, h2, h3, h4, _⟩ | ⟨h1, h2, h3, h4, _⟩
  · exact .inl ⟨h1, h2⟩
  · exact .inr (.inl ⟨h1, h2, h3⟩)
  · exact .inr (.inr (.inl ⟨h1, h2, h3, h4⟩))
  · exact .inr (.inr (.inr ⟨h1, h2, h3, h4⟩))
/-- What stands behind the call of Sew in a law: its answer, with the surface laid in a variable. -/
def LaidS (w0 : World) (N : Int) (T : List T3) (l : List P4) (s5 s6 s7 : Value) (wx : World) : Prop :=
  ∃ (g : Nat) (x0 x1 : Value) (c : Int), s5 = .pointer (some ⟨g, 0, none⟩) ∧ w0.heap.size ≤ g ∧ s7 = .int .i64 c ∧ Bk wx g 24 [x0, x1] ∧ Below w0.heap.size w0 wx ∧ CodeIs N T l c ∧
    ((c ≠ 0 ∧ x0 = .int .i64 0 ∧ x1 = .slice none 0 0 ∧ s6 = .slice none 0 0) ∨
     (c = 0 ∧ Surf N T ∧ placedN (fun e => decide (e ∈ bedges T)) l = 0 ∧ Surf (rnk (labP l) N.toNat : Nat) (sewT (labP l) T) ∧ x0 = .int .i64 (rnk (labP l) N.toNat : Nat) ∧ Sl 3 RTri wx wx.heap.size x1 (sewT (labP l) T) ∧ Sl 1 RInt wx wx.heap.size s6 (sewOf (labP l) N.toNat)))
theorem endS_laid {w' : World} {N : Int} {T : List T3} {l : List P4} {x o : Value} {c : Int} (h : SewEnd w' N T l x o c) : ∃ n0 A9 n9 c9, x = .agg #[.int .i64 n0, .slice A9 n9 c9] ∧
    ((c ≠ 0 ∧ Value.int .i64 n0 = .int .i64 0 ∧ Value.slice A9 n9 c9 = .slice none 0 0 ∧ o = .slice none 0 0) ∨ (c = 0 ∧ Surf N T ∧ placedN (fun e => decide (e ∈ bedges T)) l = 0 ∧ Surf (rnk (labP l) N.toNat : Nat) (sewT (labP l) T))) := by
  rcases h with ⟨_, h1, h2, h3⟩ | ⟨_, _, h1, h2, h3⟩ | ⟨_, _, _, h1, h2, h3⟩ | ⟨h1, h2, h3, h4, xs, h5, h6, _⟩
  · exact ⟨_, _, _, _, h2, .inl ⟨by omega, rfl, rfl, h3⟩⟩
  · exact ⟨_, _, _, _, h2, .inl ⟨h1, rfl, rfl, h3⟩⟩
  · exact ⟨_, _, _, _, h2, .inl ⟨by omega, rfl, rfl, h3⟩⟩
  · obtain ⟨A9, c9, rfl, _⟩ := h6.form
    exact ⟨_, _, _, _, h5, .inr ⟨h4, h1, h2, h3⟩⟩
/-- The surface stored in a variable that lay there ahead of the call, or was made behind it. -/
theorem laidS_of {w0 w1 w' wx : World} {N : Int} {T : List T3} {l : List P4} {x0 x1 o : Value} {c : Int} {g : Nat}
    (hcd : CodeIs N T l c) (hx : ((c ≠ 0 ∧ x0 = .int .i64 0 ∧ x1 = .slice none 0 0 ∧ o = .slice none 0 0) ∨ (c = 0 ∧ Surf N T ∧ placedN (fun e => decide (e ∈ bedges T)) l = 0 ∧ Surf (rnk (labP l) N.toNat : Nat) (sewT (labP l) T))))
    (hf : SewFar w1 w' N T l (.agg #[x0, x1]) o c) (hg : w0.heap.size ≤ g) (hk : Bk wx g 24 [x0, x1]) (hb : Below w0.heap.size w0 wx)
    (hwz : ∀ b, w1.heap.size ≤ b → b < w'.heap.size → wx.heap[b]? = w'.heap[b]?) : LaidS w0 N T l (.pointer (some ⟨g, 0, none⟩)) o (.int .i64 c) wx := by
  refine ⟨g, x0, x1, c, rfl, hg, rfl, hk, hb, hcd, ?_⟩
  rcases hx with h | ⟨h1, h2, h3, h4⟩
  · exact .inl h
  · obtain ⟨xs, e1, e2, e3⟩ := hf h1 wx hwz
    have e4 : x0 = .int .i64 (rnk (labP l) N.toNat : Nat) ∧ x1 = xs := by
      injection e1 with e1
      have := congrArg Array.toList e1
      simp at this
      exact this
    exact .inr ⟨h1, h2, h3, h4, e4.1, by rw [e4.2]; exact e2, e3⟩
/-- Both answers are the same. -/
theorem both_same {wx w2 : World} {N : Int} {T : List T3} {l : List P4} {x0 x1 s6 y o2 : Value} {c d : Int} (hc : CodeIs N T l c)
    (hx : ((c ≠ 0 ∧ x0 = .int .i64 0 ∧ x1 = .slice none 0 0 ∧ s6 = .slice none 0 0) ∨
     (c = 0 ∧ Surf N T ∧ placedN (fun e => decide (e ∈ bedges T)) l = 0 ∧ Surf (rnk (labP l) N.toNat : Nat) (sewT (labP l) T) ∧ x0 = .int .i64 (rnk (labP l) N.toNat : Nat) ∧ Sl 3 RTri wx wx.heap.size x1 (sewT (labP l) T) ∧ Sl 1 RInt wx wx.heap.size s6 (sewOf (labP l) N.toNat))))
    (hy : SewEnd w2 N T l y o2 d) (hN : N ≤ 200) (hT : T.length ≤ 200) :
    d = c ∧ ∃ (n0 : Int) (la : List T3) (lo : List Int) (y1 : Value), x0 = .int .i64 n0 ∧ Sl 3 RTri wx wx.heap.size x1 la ∧ Sl 1 RInt wx wx.heap.size s6 lo ∧ y = .agg #[.int .i64 n0, y1] ∧ Sl 3 RTri w2 w2.heap.size y1 la ∧ Sl 1 RInt w2 w2.heap.size o2 lo ∧ la.length ≤ 200 ∧ lo.length ≤ 200 := by
  have hdc := code_one (end_code hy) hc
  refine ⟨hdc, ?_⟩
  subst hdc
  have hno : d ≠ 0 → NoSew y o2 := fun h0 => by
    rcases hy with ⟨_, _, h⟩ | ⟨_, _, _, h⟩ | ⟨_, _, _, _, h⟩ | ⟨_, _, _, h, _⟩
    · exact h
    · exact h
    · exact h
    · exact absurd h h0
  rcases hx with ⟨h0, rfl, rfl, rfl⟩ | ⟨h0, _, _, _, rfl, h1, h2⟩
  · obtain ⟨rfl, rfl⟩ := hno h0
    exact ⟨0, [], [], _, rfl, Sl.nil _ _, Sl.nil _ _, rfl, Sl.nil _ _, Sl.nil _ _, by simp, by simp⟩
  · rcases hy with ⟨_, h, _⟩ | ⟨_, _, h, _⟩ | ⟨_, _, _, h, _⟩ | ⟨_, _, _, _, xs, h3, h4, h5⟩
    · omega
    · exact absurd h0 h
    · omega
    · refine ⟨_, _, _, xs, rfl, h1, h2, h3, h4, h5, ?_, ?_⟩
      · unfold sewT; rw [List.length_map]; exact hT
      · unfold sewOf; rw [List.length_map, List.length_range]; omega
set_option maxRecDepth 40000 in
set_option maxHeartbeats 8000000 in
theorem sewsews_law (sv : Value) (N : Int) (T : List T3) (v1 : Value) (l : List P4) (w : World) {B : Nat} (hB0 : B ≤ w.heap.size) (hT : Sl 3 RTri w B sv T) (hN : I64 N) (h1 : Sl 4 R4 w B v1 l ∧ ∀ p ∈ l, ok2 p.1 ∧ ok2 p.2) :
    Calls Try.prog 3 #[.agg #[.int .i64 N, sv], v1] w fun e w' => e = .returned (.bool true) ∧ Below w.heap.size w w' := by
  obtain ⟨hl, hok4⟩ := h1
  have hok : ∀ e ∈ edgs l, ok2 e := fun e he => by
    obtain ⟨p, hp, h1⟩ := List.mem_flatMap.1 he
    simp at h1
    rcases h1 with rfl | rfl
    · exact (hok4 p hp).1
    · exact (hok4 p hp).2
  obtain ⟨A, cap, rfl, hcap⟩ := hT.form
  obtain ⟨A2, cap2, rfl, hcap2⟩ := hl.form
  have hb0 := (Below.refl w.heap.size w).alloc (Nat.le_refl _) (.cells #[.int .i64 N, .slice A T.length cap] 24)
  have hk0 := Bk.new w 24 [.int .i64 N, .slice A T.length cap]
  have haw := awake20_calls (w.alloc (.cells #[.int .i64 N, .slice A T.length cap] 24))
  have hz0 : w.heap.size + 1 ≤ (w.alloc (.cells #[.int .i64 N, .slice A T.length cap] 24)).heap.size := by simp
  generalize hw0 : w.alloc (.cells #[.int .i64 N, .slice A T.length cap] 24) = w0 at *
  have HhT := Lib.hid hT; clear hT; have Hhl := Lib.hid hl; clear hl; have Hhok := Lib.hid hok; clear hok; have Hhok4 := Lib.hid hok4; clear hok4; have Hhaw := Lib.hid haw; clear haw; have Hhk0 := Lib.hid hk0; clear hk0
  go_enter Try.func3, Try.ntmps3
  go_wp2_with fail
  clear hw0
  refine Hhaw.out.mono ?_
  rintro e w1 ⟨rfl, hb1⟩
  have hz1 := hb1.size
  have hbel1 := hb0.trans (hb1.mono hb0.size)
  have hk1 := Hhk0.out.below hb1 (by omega)
  have c0 : w1.cell? ⟨w.heap.size, 0, none⟩ = some (.int .i64 N) := hk1.cell 0
  have c1 : w1.cell? ⟨w.heap.size, 1, none⟩ = some (.slice A T.length cap) := hk1.cell 1
  have Hhk1 := Lib.hid hk1; clear hk1
  by_cases hs1 : 40 < (T.length : Int)
  · go_wp2_with fail
    all_goals first | (exfalso; omega) | skip
    go_ret
    exact ⟨rfl, hbel1⟩
  by_cases hs2 : 200 < N
  · go_wp2_with fail
    all_goals first | (exfalso; omega) | skip
    go_ret
    exact ⟨rfl, hbel1⟩
  by_cases hs3 : 20 < (l.length : Int)
  · go_wp2_with fail
    all_goals first | (exfalso; omega) | skip
    go_ret
    exact ⟨rfl, hbel1⟩
  have hs4 : T.length ≤ 40 := by omega
  have hs5 : l.length ≤ 20 := by omega
  have hs6 : N ≤ 200 := by omega
  have hl1 := Hhl.out.below keeps_4 (hbel1.mono hB0)
  have hT1 := HhT.out.below keeps_tri (hbel1.mono hB0)
  have Hhl1 := Lib.hid hl1; clear hl1; have HhT1 := Lib.hid hT1; clear hT1
  go_upto_region 5 with fail
  all_goals first | (exfalso; omega) | skip
  go_cut [5, 6, 7] (fun s5 s6 s7 wx => LaidS w1 N T l s5 s6 s7 wx)
  case first =>
    have hgi := fun wz (hz : Below w1.heap.size w1 wz) => given20_calls (w := wz) (Hhl1.out.below keeps_4 (hz.mono (by omega))) (show B ≤ wz.heap.size by have := hz.size; omega) (by omega)
    have hsw := fun wz (lv : Value) (hz : Below w1.heap.size w1 wz) (hv : Sl 4 R4 wz wz.heap.size lv l) => sew_calls2 (w := wz) (B := wz.heap.size) ((HhT1.out.below keeps_tri (hz.mono (by omega))).keep keeps_tri (Below.refl _ _) (show B ≤ wz.heap.size by have := hz.size; omega)) hv (Nat.le_refl _) hN (by omega) Hhok.out
    have hls : w.heap.size < w1.heap.size := by omega
    have Hhgi := Lib.hid hgi; clear hgi; have Hhsw := Lib.hid hsw; clear hsw
    go_wp2_with fail
    refine Go.Canon.wp_region_tree [0] (fun b => b = w.heap.size) (.seg [0,1] (.alt 2 (.alt 3 (.seg [4,5,6,7] (.alt 8 (.alt 9 (.seg [10,11] .fin) .no) .no)) (.alt 8 (.alt 3 (.seg [4,5,6,7] (.alt 9 (.seg [10,11] .fin) .no)) .no) .no)) (.alt 8 (.alt 2 (.alt 3 (.seg [4,5,6,7] (.alt 9 (.seg [10,11] .fin) .no)) .no) .no) .no))) mixed (by kernel_rfl) ?_
    refine Go.Canon.tr_seg ?_
    simp only [List.map_cons, List.map_nil, List.getD_cons_zero, List.getD_cons_succ]
    go_wp2_with fail
    refine Go.Canon.tr_to (Go.Canon.tr_alt ?_ (Go.Canon.tr_one ?_))
    · simp only [List.getD_cons_zero, List.getD_cons_succ]
      go_wp2_with fail
      refine (Hhgi.out w1.drew (Below.refl _ w1).drew).mono ?_
      rintro e w2 ⟨⟨v, rfl, hown⟩, hb2⟩
      have hb2 := (Below.refl w1.heap.size w1).drew.trans hb2
      have hz2 := hb2.size
      have hsl2 := sl_own_4 hown
      obtain ⟨A3, cap3, rfl, hc3⟩ := own_form hown
      go_wp2_with fail
      refine Go.Canon.tr_end (fun b hb => by subst hb; exact hb2.block _ hls) (Go.Canon.tr_alt ?_ (Go.Canon.tr_one ?_))
      · have hs9 := Hhsw.out w2 _ hb2 hsl2
        have Hhown := Lib.hid hown; clear hown; have Hhsl2 := Lib.hid hsl2; clear hsl2; have Hhs9 := Lib.hid hs9; clear hs9
        simp only [List.getD_cons_zero, List.getD_cons_succ]
        go_wp2_with fail
        refine Hhs9.out.mono ?_
        rintro e w3 ⟨⟨x, o, c, rfl, hend, hfar⟩, hb3⟩
        obtain ⟨n0, A9, n9, c9, rfl, hor⟩ := endS_laid hend
        have hb3' := hb2.trans (hb3.mono hz2)
        have hz3 := hb3.size
        have hcd := end_code hend
        clear hend
        have Hhor := Lib.hid hor; clear hor; have Hhfar := Lib.hid hfar; clear hfar; have Hhcd := Lib.hid hcd; clear hcd
        go_wp2_with fail
        refine Go.Canon.tr_end (fun b hb => by subst hb; exact hb3'.block _ hls) (Go.Canon.tr_seg ?_)
        simp only [List.map_cons, List.map_nil, List.getD_cons_zero, List.getD_cons_succ]
        go_wp2_with fail
        refine Go.Canon.tr_to (Go.Canon.tr_one ?_)
        simp only [List.getD_cons_zero, List.getD_cons_succ]
        go_wp2_with fail
        have hb4 := (Below.refl w3.heap.size w3).alloc (Nat.le_refl _) (.cells #[.int .i64 0, .slice none 0 0] 24)
        have hb4' := hb3'.trans (hb4.mono (by omega))
        refine Go.Canon.tr_end (fun b hb => by subst hb; exact hb4'.block _ hls) (Go.Canon.tr_one ?_)
        simp only [List.getD_cons_zero, List.getD_cons_succ]
        go_wp2_with fail
        have hks := Bk.new w3 24 [.int .i64 n0, .slice A9 n9 c9]
        have hb5 := (Below.refl w3.heap.size w3).alloc (Nat.le_refl _) (.cells #[.int .i64 n0, .slice A9 n9 c9] 24)
        have hb5' := hb3'.trans (hb5.mono (by omega))
        refine Go.Canon.tr_end (fun b hb => by subst hb; exact hb5'.block _ hls) (Go.Canon.tr_seg ?_)
        simp only [List.map_cons, List.map_nil, List.getD_cons_zero, List.getD_cons_succ]
        go_wp2_with fail
        refine Go.Canon.tr_to (Go.Canon.tr_fin (by rfl) (List.forall_mem_cons.2 ⟨.inl ⟨_, rfl, rfl, by rw [World.cell?_drew, c0]; rfl⟩, fun _ h => by cases h⟩) ?_)
        go_wp2_with fail
        go_meet
        exact laidS_of Hhcd.out Hhor.out Hhfar.out (by omega) hks hb5' (fun b _ h2 => hb5.block b h2)
      · -- the variable is made between the two calls
        simp only [List.getD_cons_zero, List.getD_cons_succ]
        go_wp2_with fail
        have hkz := Bk.new w2 24 [.int .i64 0, .slice none 0 0]
        have hb4 := (Below.refl w2.heap.size w2).alloc (Nat.le_refl _) (.cells #[.int .i64 0, .slice none 0 0] 24)
        have hb4' := hb2.trans (hb4.mono hz2)
        have hs9 := Hhsw.out _ _ hb4' ((hsl2.below keeps_4 hb4).keep keeps_4 (Below.refl _ _) hb4.size)
        have hz4 : w2.heap.size < (w2.alloc (.cells #[.int .i64 0, .slice none 0 0] 24)).heap.size := by simp
        generalize hw4 : w2.alloc (.cells #[.int .i64 0, .slice none 0 0] 24) = w4 at *
        have Hhown := Lib.hid hown; clear hown; have Hhsl2 := Lib.hid hsl2; clear hsl2; have Hhs9 := Lib.hid hs9; clear hs9; have Hhkz := Lib.hid hkz; clear hkz
        clear hw4
        refine Go.Canon.tr_end (fun b hb => by subst hb; exact hb4'.block _ hls) (Go.Canon.tr_one ?_)
        simp only [List.getD_cons_zero, List.getD_cons_succ]
        go_wp2_with fail
        refine Hhs9.out.mono ?_
        rintro e w3 ⟨⟨x, o, c, rfl, hend, hfar⟩, hb3⟩
        obtain ⟨n0, A9, n9, c9, rfl, hor⟩ := endS_laid hend
        have hb3' := hb4'.trans (hb3.mono hb4'.size)
        have hz3 := hb3.size
        have hkz3 := Hhkz.out.below hb3 hz4
        have hcd := end_code hend
        clear hend
        have Hhor := Lib.hid hor; clear hor; have Hhfar := Lib.hid hfar; clear hfar; have Hhcd := Lib.hid hcd; clear hcd
        go_wp2_with fail
        refine Go.Canon.tr_end (fun b hb => by subst hb; exact hb3'.block _ hls) (Go.Canon.tr_seg ?_)
        simp only [List.map_cons, List.map_nil, List.getD_cons_zero, List.getD_cons_succ]
        go_wp2_with fail
        have e0 : w3.cell? ⟨w2.heap.size, 0, none⟩ = some (.int .i64 0) := hkz3.cell 0
        have e1 : w3.cell? ⟨w2.heap.size, 1, none⟩ = some (.slice none 0 0) := hkz3.cell 1
        have f1 := hkz3.frozen
        have hks := (hkz3.set 0 (.int .i64 n0)).set 1 (.slice A9 n9 c9)
        have hbs := (hb3'.setCell (p := ⟨w2.heap.size, 0, none⟩) (by show w1.heap.size ≤ w2.heap.size; exact hz2) (.int .i64 n0)).setCell (p := ⟨w2.heap.size, 1, none⟩) (by show w1.heap.size ≤ w2.heap.size; exact hz2) (.slice A9 n9 c9)
        have Hhkz3 := Lib.hid hkz3; clear hkz3; have Hhks := Lib.hid hks; clear hks; have Hhbs := Lib.hid hbs; clear hbs
        refine Go.Canon.tr_to (Go.Canon.tr_one ?_)
        simp only [List.getD_cons_zero, List.getD_cons_succ]
        go_wp2_with fail
        refine Go.Canon.tr_end (fun b hb => by subst hb; exact Hhbs.out.block _ hls) (Go.Canon.tr_seg ?_)
        simp only [List.map_cons, List.map_nil, List.getD_cons_zero, List.getD_cons_succ]
        go_wp2_with fail
        refine Go.Canon.tr_to (Go.Canon.tr_fin (by rfl) (List.forall_mem_cons.2 ⟨.inl ⟨_, rfl, rfl, by rw [World.cell?_drew, c0]; rfl⟩, fun _ h => by cases h⟩) ?_)
        go_wp2_with fail
        go_meet
        exact laidS_of Hhcd.out Hhor.out Hhfar.out hz2 Hhks.out Hhbs.out (fun b h1 _ => by
          rw [Below.heap_setCell _ ⟨w2.heap.size, 1, none⟩ _ b (by show b ≠ w2.heap.size; omega), Below.heap_setCell _ ⟨w2.heap.size, 0, none⟩ _ b (by show b ≠ w2.heap.size; omega)])
    · simp only [List.getD_cons_zero, List.getD_cons_succ]
      go_wp2_with fail
      have hkz := (Bk.new w1 24 [.int .i64 0, .slice none 0 0]).drew
      have hb4' := ((Below.refl w1.heap.size w1).alloc (Nat.le_refl _) (.cells #[.int .i64 0, .slice none 0 0] 24)).drew
      have hz4 : w1.heap.size < (w1.alloc (.cells #[.int .i64 0, .slice none 0 0] 24)).drew.heap.size := by simp
      generalize hw4 : (w1.alloc (.cells #[.int .i64 0, .slice none 0 0] 24)).drew = w4 at *
      clear hw4
      refine Go.Canon.tr_end (fun b hb => by subst hb; exact hb4'.block _ hls) (Go.Canon.tr_one ?_)
      simp only [List.getD_cons_zero, List.getD_cons_succ]
      go_wp2_with fail
      refine (Hhgi.out w4 hb4').mono ?_
      rintro e w2 ⟨⟨v, rfl, hown⟩, hb2⟩
      have hb2' := hb4'.trans (hb2.mono hb4'.size)
      have hz2 := hb2.size
      have hsl2 := sl_own_4 hown
      obtain ⟨A3, cap3, rfl, hc3⟩ := own_form hown
      have hkz2 := hkz.below hb2 hz4
      have hs9 := Hhsw.out w2 _ hb2' hsl2
      have Hhown := Lib.hid hown; clear hown; have Hhsl2 := Lib.hid hsl2; clear hsl2; have Hhs9 := Lib.hid hs9; clear hs9
      go_wp2_with fail
      refine Go.Canon.tr_end (fun b hb => by subst hb; exact hb2'.block _ hls) (Go.Canon.tr_one ?_)
      simp only [List.getD_cons_zero, List.getD_cons_succ]
      go_wp2_with fail
      refine Hhs9.out.mono ?_
      rintro e w3 ⟨⟨x, o, c, rfl, hend, hfar⟩, hb3⟩
      obtain ⟨n0, A9, n9, c9, rfl, hor⟩ := endS_laid hend
      have hb3' := hb2'.trans (hb3.mono hb2'.size)
      have hz3 := hb3.size
      have hkz3 := hkz2.below hb3 hkz2.lt
      have hcd := end_code hend
      clear hend
      have Hhor := Lib.hid hor; clear hor; have Hhfar := Lib.hid hfar; clear hfar; have Hhcd := Lib.hid hcd; clear hcd
      go_wp2_with fail
      refine Go.Canon.tr_end (fun b hb => by subst hb; exact hb3'.block _ hls) (Go.Canon.tr_seg ?_)
      simp only [List.map_cons, List.map_nil, List.getD_cons_zero, List.getD_cons_succ]
      go_wp2_with fail
      have e0 : w3.cell? ⟨w1.heap.size, 0, none⟩ = some (.int .i64 0) := hkz3.cell 0
      have e1 : w3.cell? ⟨w1.heap.size, 1, none⟩ = some (.slice none 0 0) := hkz3.cell 1
      have f1 := hkz3.frozen
      have hks := (hkz3.set 0 (.int .i64 n0)).set 1 (.slice A9 n9 c9)
      have hbs := (hb3'.setCell (p := ⟨w1.heap.size, 0, none⟩) (Nat.le_refl _) (.int .i64 n0)).setCell (p := ⟨w1.heap.size, 1, none⟩) (Nat.le_refl _) (.slice A9 n9 c9)
      have Hhkz := Lib.hid hkz; clear hkz; have Hhkz2 := Lib.hid hkz2; clear hkz2; have Hhkz3 := Lib.hid hkz3; clear hkz3; have Hhks := Lib.hid hks; clear hks; have Hhbs := Lib.hid hbs; clear hbs
      refine Go.Canon.tr_to (Go.Canon.tr_one ?_)
      simp only [List.getD_cons_zero, List.getD_cons_succ]
      go_wp2_with fail
      refine Go.Canon.tr_end (fun b hb => by subst hb; exact Hhbs.out.block _ hls) (Go.Canon.tr_seg ?_)
      simp only [List.map_cons, List.map_nil, List.getD_cons_zero, List.getD_cons_succ]
      go_wp2_with fail
      refine Go.Canon.tr_to (Go.Canon.tr_fin (by rfl) (List.forall_mem_cons.2 ⟨.inl ⟨_, rfl, rfl, by rw [World.cell?_drew, c0]; rfl⟩, fun _ h => by cases h⟩) ?_)
      go_wp2_with fail
      go_meet
      exact laidS_of Hhcd.out Hhor.out Hhfar.out (Nat.le_refl _) Hhks.out Hhbs.out (fun b h1 _ => by
        rw [Below.heap_setCell _ ⟨w1.heap.size, 1, none⟩ _ b (by show b ≠ w1.heap.size; omega), Below.heap_setCell _ ⟨w1.heap.size, 0, none⟩ _ b (by show b ≠ w1.heap.size; omega)])
  case rest =>
    obtain ⟨g5, x0, x1, c, rfl, hg5, rfl, hkx, hbx, hcd, hor⟩ := hcut
    have hbelc := hbel1.trans (hbx.mono hbel1.size)
    have hzc := hbx.size
    have hls : w.heap.size < w1.heap.size := by omega
    have c0c := (hbx.cell (p := ⟨w.heap.size, 0, none⟩) hls).trans c0
    have c1c := (hbx.cell (p := ⟨w.heap.size, 1, none⟩) hls).trans c1
    have hgl := hkx.lt
    have hTc := (HhT1.out.below keeps_tri (hbx.mono (show B ≤ w1.heap.size by omega)))
    have hlc := (Hhl1.out.below keeps_4 (hbx.mono (show B ≤ w1.heap.size by omega)))
    have hrs := refsew_calls (N := N) hTc hlc (by omega) (by omega) (by omega)
    have Hhkx := Lib.hid hkx; clear hkx; have Hhcd := Lib.hid hcd; clear hcd; have Hhor := Lib.hid hor; clear hor; have Hhrs := Lib.hid hrs; clear hrs; have HhTc := Lib.hid hTc; clear hTc; have Hhlc := Lib.hid hlc; clear hlc
    go_wp2_with fail
    refine Hhrs.out.mono ?_
    rintro e w2 ⟨⟨y, o2, d, rfl, hend⟩, hb2⟩
    obtain ⟨rfl, n0, la, lo, y1, rfl, hx1, ho1, rfl, hy1, ho2, hl1, hl2⟩ := both_same Hhcd.out Hhor.out hend hs6 (by omega)
    obtain ⟨A5, cap5, rfl, hc5⟩ := hx1.form
    obtain ⟨A6, cap6, rfl, hc6⟩ := hy1.form
    have hz2 := hb2.size
    have hks := Bk.new w2 24 [.int .i64 n0, .slice A6 la.length cap6]
    have hbs := (Below.refl w2.heap.size w2).alloc (Nat.le_refl _) (.cells #[.int .i64 n0, .slice A6 la.length cap6] 24)
    have hb2s := hb2.trans (hbs.mono hz2)
    have hbel2 := hbelc.trans (hb2s.mono hbelc.size)
    have hkx2 := Hhkx.out.below hb2s hgl
    have hsa := fun wz (hz : Below w2.heap.size (w2.alloc (.cells #[.int .i64 n0, .slice A6 la.length cap6] 24)) wz) => same20_calls (w := wz) (B := w2.heap.size) (Na := n0) (Nb := n0) ((hx1.below keeps_tri (hb2.trans ((hbs.trans hz).mono hz2))).keep keeps_tri (Below.refl _ _) hz2) (hy1.below keeps_tri (hbs.trans hz)) (by have := (hbs.trans hz).size; exact this) (by omega)
    have hin := fun wz (hz : Below w2.heap.size (w2.alloc (.cells #[.int .i64 n0, .slice A6 la.length cap6] 24)) wz) => ints20_calls (w := wz) (B := w2.heap.size) ((ho1.below keeps_int (hb2.trans ((hbs.trans hz).mono hz2))).keep keeps_int (Below.refl _ _) hz2) (ho2.below keeps_int (hbs.trans hz)) (by have := (hbs.trans hz).size; exact this) (by omega)
    have htr : decide (n0 = n0 ∧ la = la) = true := by simp
    have htr2 : decide (lo = lo) = true := by simp
    rw [htr] at hsa
    rw [htr2] at hin
    clear htr htr2
    generalize hw3 : w2.alloc (.cells #[.int .i64 n0, .slice A6 la.length cap6] 24) = w3 at *
    have z0 : w3.cell? ⟨g5, 0, none⟩ = some (.int .i64 n0) := hkx2.cell 0
    have z1 : w3.cell? ⟨g5, 1, none⟩ = some (.slice A5 la.length cap5) := hkx2.cell 1
    have y0 : w3.cell? ⟨w2.heap.size, 0, none⟩ = some (.int .i64 n0) := hks.cell 0
    have y1 : w3.cell? ⟨w2.heap.size, 1, none⟩ = some (.slice A6 la.length cap6) := hks.cell 1
    have hs9 := hsa w3 (Below.refl _ _)
    have hdd : (d == d) = true := beq_self_eq_true _
    have Hhend := Lib.hid hend; clear hend; have Hhx1 := Lib.hid hx1; clear hx1; have Hho1 := Lib.hid ho1; clear ho1; have Hhy1 := Lib.hid hy1; clear hy1; have Hho2 := Lib.hid ho2; clear ho2; have Hhks := Lib.hid hks; clear hks; have Hhkx2 := Lib.hid hkx2; clear hkx2; have Hhsa := Lib.hid hsa; clear hsa; have Hhin := Lib.hid hin; clear hin; have Hhs9 := Lib.hid hs9; clear hs9
    go_wp2_with fail
    refine Hhs9.out.mono ?_
    rintro e w4 ⟨rfl, hb4⟩
    have hz3 := hbel2.size
    have hbel4 := hbel2.trans (hb4.mono (by omega))
    have hi9 := Hhin.out w4 (hb4.mono (by have := hb2s.size; have := Hhks.out.lt; omega))
    have Hhi9 := Lib.hid hi9; clear hi9
    go_wp2_with fail
    refine Hhi9.out.mono ?_
    rintro e w5 ⟨rfl, hb5⟩
    have hbel5 := hbel4.trans (hb5.mono hbel4.size)
    go_wp2_with fail
    go_ret
    exact ⟨rfl, hbel5⟩
end Go.Proofs.Ytdljcemnbbamcaa
