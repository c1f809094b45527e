/- The law BorderLinks, walked. -/
import Derived.Test.YtckkpmjkajkkmaaBP
import Derived.Test.YtckkpmjkajkkmaaTU
namespace Go.Proofs.Ytckkpmjkajkkmaa
open Go Go.RowKit Go.Words Go.Mesh

set_option maxRecDepth 100000 in
set_option maxHeartbeats 1000000 in
theorem blinks_law (sv : Value) (N : Int) (T : List T3) (v : Int) (w : World) {B : Nat} (hB0 : B ≤ w.heap.size) (hT : Sl 3 RTri w B sv T) (hN : I64 N) :
    Calls Try.prog 15 #[.agg #[.int .i64 N, sv], .int .i64 v] w fun e w' => e = .returned (.bool true) ∧ Below w.heap.size w w' := by
  obtain ⟨A, cap, rfl, hcap⟩ := hT.form
  have hb1 := (Below.refl w.heap.size w).alloc (Nat.le_refl _) (.cells #[.int .i64 N, .slice A T.length cap] 24)
  have hbox := Bk.new w 24 [.int .i64 N, .slice A T.length cap]
  have hTA := hT.below keeps_tri (hb1.mono hB0)
  have hbl := hbox.lt
  have c0 := hbox.cell 0
  have c1 := hbox.cell 1
  simp only [List.getElem?_cons_zero, List.getElem?_cons_succ] at c0 c1
  generalize hw0 : w.alloc (.cells #[.int .i64 N, .slice A T.length cap] 24) = w0 at *
  have haw := awake12_calls w0
  have hz0 := hb1.size
  have HhT := Lib.hid hT; have Hhbox := Lib.hid hbox; have HhTA := Lib.hid hTA; have Hhaw := Lib.hid haw; clear hT hbox hTA haw
  go_enter Try.func15, Try.ntmps15
  go_wp2_with fail
  clear hw0
  refine Hhaw.out.mono ?_
  rintro e w1 ⟨rfl, hb2⟩
  have hb3 := below_call hb1 hb2 hb1.size
  have d0 : w1.cell? ⟨w.heap.size, 0, none⟩ = some (.int .i64 N) := (hb2.cell (p := ⟨w.heap.size, 0, none⟩) hbl).trans c0
  have d1 : w1.cell? ⟨w.heap.size, 1, none⟩ = some (.slice A T.length cap) := (hb2.cell (p := ⟨w.heap.size, 1, none⟩) hbl).trans c1
  have hT1 := HhTA.out.below keeps_tri (hb2.mono (by omega))
  have hz1 := hb2.size
  have htb := table12_calls hT1 (by omega) hN
  have HhT1 := Lib.hid hT1; have Hhtb := Lib.hid htb; clear hT1 htb
  go_wp2_with fail
  refine Hhtb.out.mono ?_
  rintro e w2 ⟨⟨tv, B', rfl, hor⟩, hb4⟩
  have hb5 := below_call hb3 hb4 hb3.size
  have hz2 := hb4.size
  have e0 : w2.cell? ⟨w.heap.size, 0, none⟩ = some (.int .i64 N) := (hb4.cell (p := ⟨w.heap.size, 0, none⟩) (by show w.heap.size < _; omega)).trans d0
  have e1 : w2.cell? ⟨w.heap.size, 1, none⟩ = some (.slice A T.length cap) := (hb4.cell (p := ⟨w.heap.size, 1, none⟩) (by show w.heap.size < _; omega)).trans d1
  have hT2 := HhT1.out.below keeps_tri (hb4.mono (by omega))
  have hbw2 : w.heap.size < w2.heap.size := by omega
  have hB2 : B ≤ w2.heap.size := by omega
  clear c0 c1 d0 d1 hb1 hb2 hb3 hb4 hz0 hz1 hz2 hbl
  rcases hor with ⟨h40, hs, htab⟩ | ⟨hno, rfl⟩
  rotate_left 1
  · by_cases h40 : T.length ≤ 40
    · have hns : ¬ Surf N T := fun h => hno ⟨h40, h⟩
      have hsu := surface9_calls (.slice A T.length cap) N T w2 hB2 hT2 (by omega)
      have HhT2 := Lib.hid hT2; have Hhsu := Lib.hid hsu; have Hhns := Lib.hid hns; have Hhno := Lib.hid hno; clear hT2 hsu hns hno
      go_wp2_with fail
      refine Hhsu.out.mono ?_
      rintro e w3 ⟨⟨b, rfl, hb⟩, hb6⟩
      obtain rfl : b = false := by
        cases b with
        | false => rfl
        | true => exact absurd (hb.1 rfl) Hhns.out
      have hb7 := below_call hb5 hb6 hb5.size
      have Hhb := Lib.hid hb; clear hb
      go_wp2_with fail
      go_ret
      exact ⟨rfl, hb7⟩
    · have h3 : 40 < (T.length : Int) := by omega
      clear h40
      have HhT2 := Lib.hid hT2; have Hhno := Lib.hid hno; clear hT2 hno
      go_wp2_with fail
      go_ret
      exact ⟨rfl, hb5⟩
  obtain ⟨g, rfl⟩ : ∃ g, tv = .pointer (some ⟨g, 0, none⟩) := by
    obtain ⟨g, _, _, _, _, _, rfl, _⟩ := htab
    exact ⟨_, rfl⟩
  have hTN : TabN w2 B' (.pointer (some ⟨g, 0, none⟩)) N T := .inl htab
  have hle := hTN.le
  have haf := bafter_calls hTN hs v
  have hlk := fun wz (hz : TabN wz B' (.pointer (some ⟨g, 0, none⟩)) N T) => link_calls hz hs v
  have haf2 := fun wz x (hz : TabN wz B' (.pointer (some ⟨g, 0, none⟩)) N T) => bafter_calls hz hs x
  cases hav : aftV T v with
  | none =>
    have hneg : afI T v = -1 := by unfold afI; rw [hav]; rfl
    rw [hneg] at haf
    have HhT2 := Lib.hid hT2; have Hhtab := Lib.hid htab; have HhTN := Lib.hid hTN; have Hhs := Lib.hid hs; have Hhaf := Lib.hid haf; have Hhlk := Lib.hid hlk; have Hhaf2 := Lib.hid haf2; have Hhneg := Lib.hid hneg; have Hhav := Lib.hid hav; clear hT2 htab hTN hs haf hlk haf2 hneg hav
    go_wp2_with fail
    refine Hhaf.out.mono ?_
    rintro e w3 ⟨rfl, hb6⟩
    have hb7 := below_call hb5 hb6 hb5.size
    go_wp2_with fail
    go_ret
    exact ⟨rfl, hb7⟩
  | some u =>
    have hpos : afI T v = u := by unfold afI; rw [hav]; rfl
    have hu0 : 0 ≤ u := ((hs.aftV_rng hav).2).1
    obtain ⟨a, hl2, hl0, hl1, hla, hne⟩ := hs.link_border hav
    have haf3 := fun wz (hz : TabN wz B' (.pointer (some ⟨g, 0, none⟩)) N T) => haf2 wz a hz
    rw [hpos] at haf
    simp only [hla] at haf3
    have hau : (a == u) = false := by simpa using hne
    have hll := link_len hs (hs.aftV_rng hav).1
    have hrl := hs.ring_len v
    have hK : (linkAt T N v).length ≤ 200 := by rw [hll]; split <;> omega
    clear hll hrl
    generalize linkAt T N v = K at *
    obtain ⟨j, hj, hj2⟩ : ∃ j : Nat, (K.length : Int) - 1 = (j : Int) ∧ K.length - 1 = j := ⟨K.length - 1, by omega, rfl⟩
    have hl2i : 2 ≤ (K.length : Int) := by omega
    rw [hj2] at hl1
    clear hj2
    have HhT2 := Lib.hid hT2; have Hhtab := Lib.hid htab; have HhTN := Lib.hid hTN; have Hhs := Lib.hid hs; have Hhaf := Lib.hid haf; have Hhlk := Lib.hid hlk; have Hhaf2 := Lib.hid haf2; have Hhaf3 := Lib.hid haf3; have Hhpos := Lib.hid hpos; have Hhav := Lib.hid hav; have Hhl0 := Lib.hid hl0; have Hhl1 := Lib.hid hl1; have Hhla := Lib.hid hla; have Hhne := Lib.hid hne; clear hT2 htab hTN hs haf hlk haf2 haf3 hpos hav hl0 hl1 hla hne
    go_wp2_with fail
    refine Hhaf.out.mono ?_
    rintro e w3 ⟨rfl, hb6⟩
    have hz3 := hb6.size
    have hlk2 := Hhlk.out w3 (HhTN.out.below (hb6.mono hle) (Nat.le_refl _))
    have Hhlk2 := Lib.hid hlk2; clear hlk2
    go_wp2_with fail
    refine Hhlk2.out.mono ?_
    rintro e w4 ⟨⟨r, rfl, hown⟩, hb7⟩
    have hz4 := hb7.size
    have hb67 := hb6.trans (hb7.mono hz3)
    obtain ⟨A3, cap3, rfl, hc3⟩ := own_form hown
    obtain ⟨g3, rfl⟩ := own_addr hown (by omega)
    obtain ⟨q0, p0⟩ := List.getElem?_eq_some_iff.1 Hhl0.out
    obtain ⟨q1, p1⟩ := List.getElem?_eq_some_iff.1 Hhl1.out
    obtain ⟨k0, hg3, -⟩ := own_int_at hown rfl q0
    obtain ⟨k1, -, -⟩ := own_int_at hown rfl q1
    rw [p0] at k0
    rw [p1] at k1
    have hji : (j : Int) < (K.length : Int) := by omega
    have haf4 := fun wz (h9 : Below w4.heap.size w4 wz) => Hhaf3.out wz (HhTN.out.below ((hb67.trans (h9.mono hb67.size)).mono hle) (Nat.le_refl _))
    have Hhown := Lib.hid hown; have Hp0 := Lib.hid p0; have Hp1 := Lib.hid p1; have Hhaf4 := Lib.hid haf4; clear hown p0 p1 haf4
    go_wp2_with fail
    go_wp2_with fail
    refine Go.Canon.wp_region_text mixed (by kernel_rfl) ?_
    go_wp2_with fail
    refine Go.Canon.chk (by rfl) ?_
    go_wp2_with fail
    refine (Hhaf4.out _ (Below.refl _ _).drew).mono ?_
    rintro e w5 ⟨rfl, hb8⟩
    have hb9 := below_call (below_call hb5 hb67 hb5.size) ((Below.refl w4.heap.size w4).drew.trans hb8) (by omega)
    go_wp2_with fail
    go_ret
    exact ⟨rfl, hb9⟩
end Go.Proofs.Ytckkpmjkajkkmaa
