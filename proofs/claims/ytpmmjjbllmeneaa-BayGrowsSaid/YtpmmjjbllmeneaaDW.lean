/- The law BayGrows. -/
import Derived.Test.YtpmmjjbllmeneaaDV
import Derived.Test.YtpmmjjbllmeneaaDK
namespace Go.Proofs.Ytpmmjjbllmeneaa
open Go Go.RowKit Go.Words Go.Mesh

set_option maxRecDepth 100000 in
set_option maxHeartbeats 2000000 in
theorem grows_law (sv : Value) (N : Int) (T : List T3) (lv : Value) (l : List Int) (w : World) {B : Nat} (hB0 : B ≤ w.heap.size) (hT : Sl 3 RTri w B sv T) (hN : I64 N) (hl : Sl 1 RInt w B lv l) :
    Calls Try.prog 4 #[.agg #[.int .i64 N, sv], lv] w fun e w' => e = .returned (.bool true) ∧ Below w.heap.size w w' := by
  obtain ⟨A0, cap0, rfl, hcap0⟩ := hl.form
  obtain ⟨A, cap, rfl, hcap⟩ := hT.form
  have hb1 := (Below.refl w.heap.size w).alloc (Nat.le_refl _) (.cells #[.int .i64 N, .slice A T.length cap] 24)
  have hbox := Bk.new w 24 [.int .i64 N, .slice A T.length cap]
  have hTA := hT.below keeps_tri (hb1.mono hB0)
  have hbl := hbox.lt
  have c0 := hbox.cell 0
  have c1 := hbox.cell 1
  simp only [List.getElem?_cons_zero, List.getElem?_cons_succ] at c0 c1
  generalize hw0 : w.alloc (.cells #[.int .i64 N, .slice A T.length cap] 24) = w0 at *
  have haw := awake39_calls w0
  have hz0 := hb1.size
  have HhT := Lib.hid hT; have Hhbox := Lib.hid hbox; have HhTA := Lib.hid hTA; have Hhaw := Lib.hid haw; clear hT hbox hTA haw
  go_enter Try.func4, Try.ntmps4
  go_wp2_with fail
  clear hw0
  refine Hhaw.out.mono ?_
  rintro e w1 ⟨rfl, hb2⟩
  have hb3 := below_call hb1 hb2 hb1.size
  have d0 : w1.cell? ⟨w.heap.size, 0, none⟩ = some (.int .i64 N) := (hb2.cell (p := ⟨w.heap.size, 0, none⟩) hbl).trans c0
  have d1 : w1.cell? ⟨w.heap.size, 1, none⟩ = some (.slice A T.length cap) := (hb2.cell (p := ⟨w.heap.size, 1, none⟩) hbl).trans c1
  have hT1 := HhTA.out.below keeps_tri (hb2.mono (by omega))
  have hz1 := hb2.size
  have hl1 := hl.below keeps_int (hb3.mono hB0)
  by_cases h300 : 300 < l.length
  case pos =>
    have h300i : 300 < (l.length : Int) := by omega
    clear h300
    have HhT1 := Lib.hid hT1; have Hhl := Lib.hid hl; have Hhl1 := Lib.hid hl1; clear hT1 hl hl1
    go_wp2_with fail
    go_ret
    exact ⟨rfl, hb3⟩
  have h300i : (l.length : Int) ≤ 300 := by omega
  have htb := table39_calls hT1 (by omega) hN
  have HhT1 := Lib.hid hT1; have Hhtb := Lib.hid htb; clear hT1 htb
  go_wp2_with fail
  refine Hhtb.out.mono ?_
  rintro e w2 ⟨⟨pv, B', rfl, hor⟩, hb4⟩
  have hb5 := below_call hb3 hb4 hb3.size
  have hz2 := hb4.size
  have e0 : w2.cell? ⟨w.heap.size, 0, none⟩ = some (.int .i64 N) := (hb4.cell (p := ⟨w.heap.size, 0, none⟩) (by show w.heap.size < _; omega)).trans d0
  have e1 : w2.cell? ⟨w.heap.size, 1, none⟩ = some (.slice A T.length cap) := (hb4.cell (p := ⟨w.heap.size, 1, none⟩) (by show w.heap.size < _; omega)).trans d1
  have hT2 := HhT1.out.below keeps_tri (hb4.mono (by omega))
  have hbw2 : w.heap.size < w2.heap.size := by omega
  have hB2 : B ≤ w2.heap.size := by omega
  have hw12 : Below w.heap.size w w1 := hb3
  clear c0 c1 d0 d1
  have hl2 := hl1.below keeps_int (hb4.mono (by omega))
  rcases hor with ⟨hsm, hs, htab⟩ | ⟨hno, rfl⟩
  case inr =>
    have hgn := grow_nil (.slice A0 l.length cap0) w2
    have HhT2 := Lib.hid hT2; have Hhno := Lib.hid hno; have Hhl := Lib.hid hl; have Hhl1 := Lib.hid hl1; have Hhl2 := Lib.hid hl2; have Hhgn := Lib.hid hgn; clear hT2 hno hl hl1 hl2 hgn
    go_wp2_with fail
    refine Hhgn.out.mono ?_
    rintro e w3 ⟨rfl, rfl⟩
    go_wp2_with fail
    go_ret
    exact ⟨rfl, hb5⟩
  obtain ⟨g, rfl⟩ : ∃ g, pv = .pointer (some ⟨g, 0, none⟩) := by
    obtain ⟨g, _, _, _, _, _, rfl, _⟩ := htab
    exact ⟨_, rfl⟩
  have hle := htab.le
  obtain ⟨h30, hN0, h60⟩ := hsm
  have hgr := grow_calls htab hs (by omega : B ≤ w2.heap.size) hl2 (by omega)
  have hrg := fun wz (hz : Below w2.heap.size w2 wz) => refgrow_calls (N := N) (hT2.below keeps_tri (hz.mono hB2)) (by have := hz.size; omega) hs (hl2.below keeps_int (hz.mono hB2)) (by have := hz.size; omega) (by omega)
  have hgL : (growL T l).length ≤ 30 := by
    unfold growL
    split
    · rw [nearL_len]; exact h30
    · simp
  have HhT2 := Lib.hid hT2; have Hhs := Lib.hid hs; have Hhtab := Lib.hid htab; have Hhl := Lib.hid hl; have Hhl1 := Lib.hid hl1; have Hhl2 := Lib.hid hl2; have Hhgr := Lib.hid hgr; have Hhrg := Lib.hid hrg; clear hT2 hs htab hl hl1 hl2 hgr hrg
  go_wp2_with fail
  refine Hhgr.out.mono ?_
  rintro e w3 ⟨⟨r3, rfl, hr3⟩, hb6⟩
  obtain ⟨A3, cap3, rfl, hc3⟩ := hr3.form
  have hz3 := hb6.size
  have hb8 := below_call hb5 hb6 hb5.size
  have q0 : w3.cell? ⟨w.heap.size, 0, none⟩ = some (.int .i64 N) := (hb6.cell (p := ⟨w.heap.size, 0, none⟩) hbw2).trans e0
  have q1 : w3.cell? ⟨w.heap.size, 1, none⟩ = some (.slice A T.length cap) := (hb6.cell (p := ⟨w.heap.size, 1, none⟩) hbw2).trans e1
  clear e0 e1
  have hrg3 := Hhrg.out w3 hb6
  have Hhr3 := Lib.hid hr3; clear hr3; have Hhrg3 := Lib.hid hrg3; clear hrg3
  go_wp2_with fail
  refine Hhrg3.out.mono ?_
  rintro e w4 ⟨⟨r4, rfl, hr4⟩, hb7⟩
  obtain ⟨A4, cap4, rfl, hc4⟩ := hr4.form
  have hz4 := hb7.size
  have hb9 := below_call hb8 hb7 hb8.size
  have hr34 := Hhr3.out.keep (B' := w4.heap.size) keeps_int hb7 hz4
  have hin := ints_calls hr34 hr4 (Nat.le_refl _) (by omega : (growL T l).length ≤ 1000000)
  rw [decide_eq_true rfl] at hin
  have Hhr4 := Lib.hid hr4; clear hr4; have Hhr34 := Lib.hid hr34; clear hr34; have Hhin := Lib.hid hin; clear hin
  go_wp2_with fail
  refine Hhin.out.mono ?_
  rintro e w5 ⟨rfl, hb10⟩
  have hb11 := below_call hb9 hb10 hb9.size
  go_wp2_with fail
  go_ret
  exact ⟨rfl, hb11⟩
end Go.Proofs.Ytpmmjjbllmeneaa
