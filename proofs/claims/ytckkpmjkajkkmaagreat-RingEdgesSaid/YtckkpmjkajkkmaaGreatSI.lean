/- The law RingEdges. -/
import Derived.Test.YtckkpmjkajkkmaaGreatSH
import Derived.Test.YtckkpmjkajkkmaaGreatVA
namespace Go.Mesh
theorem nodup_lenE {α : Type} [DecidableEq α] : ∀ {l m : List α}, l.Nodup → l ⊆ m → l.length ≤ m.length
  | [], _, _, _ => Nat.zero_le _
  | a :: l, m, hn, hs => by
    have hm : a ∈ m := hs (List.mem_cons_self ..)
    have h1 := nodup_lenE (l := l) (m := m.erase a) (List.nodup_cons.1 hn).2 fun x hx => by
      have hne : x ≠ a := fun e => (List.nodup_cons.1 hn).1 (e ▸ hx)
      exact (List.mem_erase_of_ne hne).2 (hs (List.mem_cons_of_mem _ hx))
    rw [List.length_erase_of_mem hm] at h1
    have := List.length_pos_of_mem hm
    rw [List.length_cons]
    omega
theorem EdgesIs.few {T : List T3} {L : List (Int × Int)} (hL : EdgesIs T L) : L.length ≤ 3 * T.length := by
  have := nodup_lenE (m := (List.range (3 * T.length)).map (ek T)) hL.nodup fun e he => by
    obtain ⟨c, h1, h2⟩ := (hL.2 e).1 he
    exact List.mem_map.2 ⟨c, List.mem_range.2 h1, h2.symm⟩
  rwa [List.length_map, List.length_range] at this
theorem lowE_le (L : List (Int × Int)) (a : Int) : lowE L a ≤ 2 * L.length := by
  unfold lowE
  have h1 := List.length_filter_le (fun e : Int × Int => decide (e.1 < a)) L
  have h2 := List.length_filter_le (fun e : Int × Int => decide (e.2 < a)) L
  omega
end Go.Mesh
namespace Go.Proofs.YtckkpmjkajkkmaaGreat
open Go Go.RowKit Go.Words Go.Mesh

theorem edge_run2 (x1 x2 y1 y2 : Int) (w : World) : Sem.run Tryz.prog (Op.equalIn 10000 34 (.agg #[.int .i64 x1, .int .i64 x2]) (.agg #[.int .i64 y1, .int .i64 y2])) w = .ok (decide ((x1, x2) = (y1, y2))) w := by
  obtain ⟨i, hi, _⟩ := info_parts info_int
  have hp : Tryz.prog.plainKey 3 = true := by kernel_rfl
  have hc : Tryz.prog.cellsOf 3 = 1 := by kernel_rfl
  rw [show (10000 : Nat) = 9999 + 1 from rfl, run_equalIn_array w 9999 _ _ Tryz.underlying34 hi, hc, show List.range 2 = [0, 1] from rfl]
  have a0 : Sem.run Tryz.prog (part 3 #[.int .i64 x1, .int .i64 x2] (0 * 1)) w = .ok (.int .i64 x1) w := run_part_plain w hp rfl
  have a1 : Sem.run Tryz.prog (part 3 #[.int .i64 x1, .int .i64 x2] (1 * 1)) w = .ok (.int .i64 x2) w := run_part_plain w hp rfl
  have b0 : Sem.run Tryz.prog (part 3 #[.int .i64 y1, .int .i64 y2] (0 * 1)) w = .ok (.int .i64 y1) w := run_part_plain w hp rfl
  have b1 : Sem.run Tryz.prog (part 3 #[.int .i64 y1, .int .i64 y2] (1 * 1)) w = .ok (.int .i64 y2) w := run_part_plain w hp rfl
  have e0 : Sem.run Tryz.prog (Op.equalIn 9999 3 (.int .i64 x1) (.int .i64 y1)) w = .ok (x1 == y1) w := run_equalIn_int w 9998 3 .i64 .i64 x1 y1 Tryz.underlying3
  have e1 : Sem.run Tryz.prog (Op.equalIn 9999 3 (.int .i64 x2) (.int .i64 y2)) w = .ok (x2 == y2) w := run_equalIn_int w 9998 3 .i64 .i64 x2 y2 Tryz.underlying3
  simp only [Op.eqItems, Sem.run_bind, a0, b0, e0, Result.andThen_ok]
  by_cases h1 : x1 = y1
  · subst h1
    simp only [beq_self_eq_true, Bool.not_true, Bool.false_eq_true, if_false, Sem.run_bind, a1, b1, e1, Result.andThen_ok]
    by_cases h2 : x2 = y2
    · subst h2
      simp
    · have : (x2 == y2) = false := by simpa using h2
      simp [h2]
  · have : (x1 == y1) = false := by simpa using h1
    simp [h1]
theorem own_pair {w : World} {base g cap k : Nat} {L : List (Int × Int)} {a b : Int} (h : w.ownsRow base 34 2 (.slice (some ⟨g, 0, none⟩) L.length cap) L.length (flat2 L)) (hk : L[k]? = some (a, b)) :
    w.cell? ⟨g, k * 2, none⟩ = some (.int .i64 a) ∧ w.cell? ⟨g, k * 2 + 1, none⟩ = some (.int .i64 b) := by
  have hkl := (List.getElem?_eq_some_iff.1 hk).1
  have h1 := flat2_at L k (a, b) hk
  have hat : ∀ j, j < 2 → (flat2 L)[k * 2 + j]? = ([Value.int .i64 a, .int .i64 b])[j]? := fun j hj => by
    have h2 := congrArg (fun l : List Value => l[j]?) h1
    simp only [] at h2
    rwa [List.getElem?_take, if_pos hj, List.getElem?_drop] at h2
  constructor
  · have := h.cellAt (k * 2) (by omega)
    rw [this, ← Nat.add_zero (k * 2), hat 0 (by omega)]; rfl
  · have := h.cellAt (k * 2 + 1) (by omega)
    rw [this, hat 1 (by omega)]; rfl
set_option maxRecDepth 100000 in
set_option maxHeartbeats 2000000 in
theorem edges_law (sv : Value) (N : Int) (T : List T3) (w : World) {B : Nat} (hB0 : B ≤ w.heap.size) (hT : Sl 3 RTri w B sv T) (hN : I64 N) :
    Calls Tryz.prog 3 #[.agg #[.int .i64 N, sv]] w fun e w' => e = .returned (.bool true) ∧ Below w.heap.size w w' := by
  obtain ⟨A, cap, rfl, hcap⟩ := hT.form
  have hb1 := (Below.refl w.heap.size w).alloc (Nat.le_refl _) (.cells #[.int .i64 N, .slice A T.length cap] 24)
  have hbox := Bk.new w 24 [.int .i64 N, .slice A T.length cap]
  have hTA := hT.below keeps_tri (hb1.mono hB0)
  have hbl := hbox.lt
  have c0 := hbox.cell 0
  have c1 := hbox.cell 1
  simp only [List.getElem?_cons_zero, List.getElem?_cons_succ] at c0 c1
  generalize hw0 : w.alloc (.cells #[.int .i64 N, .slice A T.length cap] 24) = w0 at *
  have haw := awake_calls w0
  have hz0 := hb1.size
  have HhT := Lib.hid hT; have Hhbox := Lib.hid hbox; have HhTA := Lib.hid hTA; have Hhaw := Lib.hid haw; clear hT hbox hTA haw
  go_enter Tryz.func3, Tryz.ntmps3
  go_wp2_with fail
  clear hw0
  refine Hhaw.out.mono ?_
  rintro e w1 ⟨rfl, hb2⟩
  have hb3 := below_call hb1 hb2 hb1.size
  have d0 : w1.cell? ⟨w.heap.size, 0, none⟩ = some (.int .i64 N) := (hb2.cell (p := ⟨w.heap.size, 0, none⟩) hbl).trans c0
  have d1 : w1.cell? ⟨w.heap.size, 1, none⟩ = some (.slice A T.length cap) := (hb2.cell (p := ⟨w.heap.size, 1, none⟩) hbl).trans c1
  have hT1 := HhTA.out.below keeps_tri (hb2.mono (by omega))
  have hz1 := hb2.size
  have htb := table_calls hT1 (by omega) hN
  have HhT1 := Lib.hid hT1; have Hhtb := Lib.hid htb; clear hT1 htb
  go_wp2_with fail
  refine Hhtb.out.mono ?_
  intro e w2 htd
  obtain ⟨pv, B', N', T', rfl, hs, htab, hb4, hor⟩ := tabled_tab htd
  have hb5 := below_call hb3 hb4 hb3.size
  have hz2 := hb4.size
  rcases hor with ⟨rfl, rfl, rfl, -⟩ | ⟨g, rfl, rfl, rfl, hsm⟩
  · have Hhtd := Lib.hid htd; have Hhs := Lib.hid hs; have Hhtab := Lib.hid htab; clear htd hs htab
    go_wp2_with fail
    go_ret
    exact ⟨rfl, hb5⟩
  · have e0 : w2.cell? ⟨w.heap.size, 0, none⟩ = some (.int .i64 N') := (hb4.cell (p := ⟨w.heap.size, 0, none⟩) (by show w.heap.size < _; omega)).trans d0
    have e1 : w2.cell? ⟨w.heap.size, 1, none⟩ = some (.slice A T'.length cap) := (hb4.cell (p := ⟨w.heap.size, 1, none⟩) (by show w.heap.size < _; omega)).trans d1
    have hT2 := HhT1.out.below keeps_tri (hb4.mono (by omega))
    have hbw2 : w.heap.size < w2.heap.size := by omega
    have hle := htab.le
    obtain ⟨h40, hN0, h60⟩ := hsm
    have hed := edges_calls hT2 (by omega) hs
    have hlk := fun wz (hz : Below w2.heap.size w2 wz) (a : Int) => link_calls (htab.below (hz.mono hle) (Nat.le_refl _)) hs a
    have hnr := fun wz (hz : Below w2.heap.size w2 wz) (a b : Int) h1 h2 => near_calls (htab.below (hz.mono hle) (Nat.le_refl _)) a b h1 h2
    clear c0 c1 d0 d1 hb1 hb2 hb3 hb4 hz0 hz1 hbl
    have Hhtd := Lib.hid htd; have HhT2 := Lib.hid hT2; have Hhs := Lib.hid hs; have Hhtab := Lib.hid htab; have Hhed := Lib.hid hed; have Hhlk := Lib.hid hlk; have Hhnr := Lib.hid hnr; clear htd hT2 hs htab hed hlk hnr
    go_wp2_with fail
    refine Hhed.out.mono ?_
    rintro e w3 ⟨⟨r, L, rfl, hL, hown⟩, hb6⟩
    obtain ⟨A3, cap3, rfl, hc3⟩ := own_form hown
    have hz3 := hb6.size
    have hb8 := below_call hb5 hb6 hb5.size
    have q0 : w3.cell? ⟨w.heap.size, 0, none⟩ = some (.int .i64 N') := (hb6.cell (p := ⟨w.heap.size, 0, none⟩) hbw2).trans e0
    have hah := Ahead.start Hhs.out hL
    have hlo := lowE_start Hhs.out hL
    have hrf := Below.refl w3.heap.size w3
    have hLl : L.length ≤ 3600 := by have := hL.few; omega
    clear e0 e1
    have HhL := Lib.hid hL; have Hhown := Lib.hid hown; have Hhah := Lib.hid hah; have Hhlo := Lib.hid hlo; clear hL hown hah hlo
    go_wp2_with fail
    go_loopw [5, 6, 7] (fun kv ev av wr => ∃ (k a : Nat), (a : Int) ≤ N' ∧ kv = .int .i64 (k : Int) ∧ ev = .int .i64 (lowE L (a : Int) : Nat) ∧ av = .int .i64 (a : Int) ∧ Ahead L k (a : Int) ((a : Int) + 1) ∧ Below w3.heap.size w3 wr) (fun _ _ av _ => N'.toNat - (intOf av).toNat)
    case atStart => exact ⟨0, 0, by omega, rfl, by rw [show ((0 : Nat) : Int) = 0 from rfl, Hhlo.out]; rfl, rfl, by simpa using Hhah.out, hrf⟩
    case round =>
      clear Hhah Hhlo
      obtain ⟨k, a, haN, rfl, rfl, rfl, hah, hbr⟩ := hrel
      obtain ⟨w4, hw4⟩ : ∃ w4, w4 = wr := ⟨_, rfl⟩
      subst hw4
      have hd4 : Below w2.heap.size w2 w4 := hb6.trans (hbr.mono hz3)
      have hb9 := below_call hb8 hbr hb8.size
      have q4 : w4.cell? ⟨w.heap.size, 0, none⟩ = some (.int .i64 N') := (hbr.cell (p := ⟨w.heap.size, 0, none⟩) (by show w.heap.size < _; omega)).trans q0
      clear q0
      have hkl := hah.1
      by_cases haN2 : (a : Int) < N'
      · have hlk4 := Hhlk.out w4 hd4 (a : Int)
        have hdeg := link_deg Hhs.out HhL.out (a := (a : Int)) (by omega)
        have hsu := lowE_succ L (a : Int)
        have hle2 := lowE_le L ((a : Int) + 1)
        have hlow : lowE L (a : Int) + (linkAt T' N' (a : Int)).length = lowE L ((a : Int) + 1) := by omega
        generalize hll : (linkAt T' N' (a : Int)).length = ll at *
        clear hdeg hsu
        have Hhah := Lib.hid hah; clear hah; have Hhlk4 := Lib.hid hlk4; clear hlk4; have Hhll := Lib.hid hll; clear hll
        go_wp2_with fail
        refine Hhlk4.out.mono ?_
        rintro e w5 ⟨⟨r5, rfl, hown5⟩, hb10⟩
        obtain ⟨A5, cap5, rfl, hc5⟩ := own_form hown5
        have hz5 := hb10.size
        have hbr5 := hbr.trans (hb10.mono hbr.size)
        have q5 : w5.cell? ⟨w.heap.size, 0, none⟩ = some (.int .i64 N') := (hb10.cell (p := ⟨w.heap.size, 0, none⟩) (by show w.heap.size < _; have := hbr.size; omega)).trans q4
        clear q4
        have Hhown5 := Lib.hid hown5; clear hown5
        have hz4 := hbr.size
        go_wp2_with fail
        go_loopw [5, 8] (fun kv bv wr => ∃ (k b : Nat), (a : Int) + 1 ≤ (b : Int) ∧ (b : Int) ≤ N' ∧ kv = .int .i64 (k : Int) ∧ bv = .int .i64 (b : Int) ∧ Ahead L k (a : Int) (b : Int) ∧ Below w5.heap.size w5 wr) (fun _ bv _ => N'.toNat - (intOf bv).toNat)
        case atStart => exact ⟨k, a + 1, by omega, by omega, rfl, by simp, by simpa using Hhah.out, Below.refl _ _⟩
        case round =>
          clear Hhah hkl
          obtain ⟨k, b, hab, hbN, rfl, rfl, hah, hbq⟩ := hrel
          obtain ⟨w6, hw6⟩ : ∃ w6, w6 = wr := ⟨_, rfl⟩
          subst hw6
          have hbr6 := hbr5.trans (hbq.mono hbr5.size)
          have hd6 : Below w2.heap.size w2 w6 := hb6.trans (hbr6.mono hz3)
          have hb11 := below_call hb8 hbr6 hb8.size
          have q6 : w6.cell? ⟨w.heap.size, 0, none⟩ = some (.int .i64 N') := (hbq.cell (p := ⟨w.heap.size, 0, none⟩) (by show w.heap.size < _; omega)).trans q5
          clear q5
          have hkl := hah.1
          by_cases hbN2 : (b : Int) < N'
          · have hnr6 := Hhnr.out w6 hd6 (a : Int) (b : Int) (by unfold I64; omega) (by unfold I64; omega)
            cases hn : near T' (a : Int) (b : Int) with
            | false =>
              rw [hn] at hnr6
              have hah2 := hah.miss Hhs.out HhL.out hn
              have Hhah := Lib.hid hah; clear hah; have Hhah2 := Lib.hid hah2; clear hah2; have Hhnr6 := Lib.hid hnr6; clear hnr6; have Hhn := Lib.hid hn; clear hn
              go_wp2_with fail
              refine Hhnr6.out.mono ?_
              rintro e w7 ⟨rfl, hb12⟩
              have hbq7 := hbq.trans (hb12.mono hbq.size)
              go_wp2_with fail
              exact ⟨⟨k, b + 1, by omega, by omega, rfl, by simp, by simpa using Hhah2.out, hbq7⟩, by simp [intOf]; omega⟩
            | true =>
              rw [hn] at hnr6
              obtain ⟨hLk, hah2⟩ := hah.hit Hhs.out HhL.out (by omega) hn
              have hkl2 := (List.getElem?_eq_some_iff.1 hLk).1
              have hown6 := own_below (own_below Hhown.out hbr5 (Nat.le_refl _)) hbq (by have := hbr5.size; omega)
              obtain ⟨g3, rfl⟩ := own_addrE hown6 (by omega)
              obtain ⟨x0, x1⟩ := own_pair hown6 hLk
              have hki : (k : Int) < (L.length : Int) := by omega
              have Hhah := Lib.hid hah; clear hah; have Hhah2 := Lib.hid hah2; clear hah2; have Hhnr6 := Lib.hid hnr6; clear hnr6; have Hhn := Lib.hid hn; clear hn; have HhLk := Lib.hid hLk; clear hLk; have Hhown6 := Lib.hid hown6; clear hown6
              go_wp2_with fail
              refine Hhnr6.out.mono ?_
              rintro e w7 ⟨rfl, hb12⟩
              have hbq7 := hbq.trans (hb12.mono hbq.size)
              have hg3 := (Hhown6.out.lt g3 rfl).2
              have y0 := (hb12.cell (p := ⟨g3, k * 2, none⟩) hg3).trans x0
              have y1 := (hb12.cell (p := ⟨g3, k * 2 + 1, none⟩) hg3).trans x1
              clear x0 x1
              have hee : ∀ W, Sem.run Tryz.prog (Op.equalIn 10000 34 (.agg #[.int .i64 (a : Int), .int .i64 (b : Int)]) (.agg #[.int .i64 (a : Int), .int .i64 (b : Int)])) W = .ok true W := fun W => by rw [edge_run2]; simp
              go_wp2_with fail
              exact ⟨⟨k + 1, b + 1, by omega, by omega, by simp, by simp, by simpa using Hhah2.out, hbq7⟩, by simp [intOf]; omega⟩
          · have hbe : (b : Int) = N' := by omega
            have hah2 := hah.row Hhs.out HhL.out (by omega)
            have hsum : ((lowE L (a : Int) : Nat) : Int) + (ll : Int) = ((lowE L (((a + 1 : Nat) : Int)) : Nat) : Int) := by
              rw [show (((a + 1 : Nat)) : Int) = (a : Int) + 1 by omega]
              omega
            clear hbe
            have Hhah := Lib.hid hah; clear hah; have Hhah2 := Lib.hid hah2; clear hah2
            go_wp2_with fail
            exact ⟨⟨k, a + 1, by omega, rfl, by rw [hsum], by simp, by simpa using Hhah2.out, hbr6⟩, by simp [intOf]; omega⟩
      · obtain rfl : N' = (a : Int) := by omega
        have hka := hah.all Hhs.out HhL.out (Int.le_refl _)
        subst hka
        have hal := lowE_all Hhs.out HhL.out
        rw [hal]
        have Hhah := Lib.hid hah; clear hah; have Hhal := Lib.hid hal; clear hal
        go_wp2_with fail
        go_ret
        exact ⟨rfl, hb9⟩
end Go.Proofs.YtckkpmjkajkkmaaGreat
