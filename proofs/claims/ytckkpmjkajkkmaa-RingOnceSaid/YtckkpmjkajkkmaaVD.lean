/- The law RingOnce, walked. -/
import Derived.Test.YtckkpmjkajkkmaaTT
namespace Go.Mesh
/-- How often a corner has been seen: all at vertices below k, and the first i around k. -/
def seenF (T : List T3) (N k : Int) (i c : Nat) : Int := if vt T c < k ∨ c ∈ (ringAt T N k).take i then 1 else 0
theorem seenF_zero (T : List T3) (N k : Int) (c : Nat) : seenF T N k 0 c = if vt T c < k then 1 else 0 := by unfold seenF; simp
theorem Surf.seen_next {N : Int} {T : List T3} (h : Surf N T) (k : Int) (c : Nat) (hc : c < 3 * T.length) : seenF T N k (ringAt T N k).length c = seenF T N (k + 1) 0 c := by
  rw [seenF_zero]
  unfold seenF
  simp only [List.take_length, h.ring_mem]
  split <;> split <;> first | rfl | (exfalso; omega)
theorem Surf.seen_at {N : Int} {T : List T3} (h : Surf N T) (k : Int) {i : Nat} (hi : i < (ringAt T N k).length) : seenF T N k i (ringAt T N k)[i] = 0 ∧ seenF T N k (i + 1) (ringAt T N k)[i] = 1 ∧ ∀ c, c ≠ (ringAt T N k)[i] → seenF T N k (i + 1) c = seenF T N k i c := by
  have hm := (h.ring_mem k _).1 (List.getElem_mem hi)
  have hnd := h.ring_nodup k
  have hts := List.take_succ_eq_append_getElem hi
  have hnot : (ringAt T N k)[i] ∉ (ringAt T N k).take i := by
    intro hin
    have h2 : ((ringAt T N k).take (i + 1)).Nodup := hnd.sublist (List.take_sublist _ _)
    rw [hts, List.nodup_append] at h2
    exact h2.2.2 _ hin _ (by simp) rfl
  refine ⟨?_, ?_, fun c hc => ?_⟩
  · unfold seenF
    rw [if_neg]
    rintro (h1 | h1)
    · omega
    · exact hnot h1
  · have h9 : (ringAt T N k)[i] ∈ (ringAt T N k).take (i + 1) := by rw [hts]; exact List.mem_append_right _ (List.mem_singleton.2 rfl)
    unfold seenF
    rw [if_pos (.inr h9)]
  · have h9 : c ∈ (ringAt T N k).take (i + 1) ↔ c ∈ (ringAt T N k).take i := by rw [hts, List.mem_append, List.mem_singleton]; exact ⟨fun h => h.resolve_right hc, .inl⟩
    unfold seenF
    simp only [h9]
theorem below_le (T : List T3) (v : Int) : below T v ≤ 3 * T.length := by
  have := List.countP_le_length (p := fun c => decide (vt T c < v)) (l := List.range (3 * T.length))
  rw [List.length_range] at this
  exact this
theorem Surf.seen_all {N : Int} {T : List T3} (h : Surf N T) {c : Nat} (hc : c < 3 * T.length) : seenF T N N 0 c = 1 := by
  rw [seenF_zero, if_pos (h.rng c hc).2]
end Go.Mesh
namespace Go.Proofs.Ytckkpmjkajkkmaa
open Go Go.RowKit Go.Words Go.Mesh

def gvals (f : Nat → Int) (n : Nat) : List Value := (List.range n).map fun c => .int .i64 (f c)
theorem gvals_at (f : Nat → Int) {n c : Nat} (hc : c < n) : (gvals f n)[c]? = some (.int .i64 (f c)) := by unfold gvals; simp [hc]
theorem gvals_set (f f' : Nat → Int) (n c : Nat) (h1 : ∀ d, d ≠ c → f' d = f d) : (gvals f n).set c (.int .i64 (f' c)) = gvals f' n := by
  apply List.ext_getElem?
  intro d
  rw [List.getElem?_set]
  by_cases hd : c = d
  · subst hd
    by_cases hc : c < n
    · rw [if_pos rfl, if_pos (by unfold gvals; simpa using hc), gvals_at f' hc]
    · rw [if_pos rfl, if_neg (by unfold gvals; simpa using hc)]
      unfold gvals; simp [hc]
  · rw [if_neg hd]
    by_cases hc : d < n
    · rw [gvals_at f hc, gvals_at f' hc, h1 d (fun e => hd e.symm)]
    · unfold gvals; simp [hc]
theorem gvals_congr (f f' : Nat → Int) (n : Nat) (h : ∀ c, c < n → f c = f' c) : gvals f n = gvals f' n := by
  unfold gvals
  apply List.map_congr_left
  intro c hc
  rw [h c (by simpa using hc)]
set_option maxRecDepth 40000 in
set_option maxHeartbeats 2000000 in
theorem once_law (sv : Value) (N : Int) (T : List T3) (w : World) {B : Nat} (hB0 : B ≤ w.heap.size) (hT : Sl 3 RTri w B sv T) (hN : I64 N) :
    Calls Try.prog 5 #[.agg #[.int .i64 N, sv]] w fun e w' => e = .returned (.bool true) ∧ Below w.heap.size w w' := by
  have v : Int := 0
  obtain ⟨A, cap, rfl, hcap⟩ := hT.form
  have hb1 := (Below.refl w.heap.size w).alloc (Nat.le_refl _) (.cells #[.int .i64 N, .slice A T.length cap] 24)
  have hbox := Bk.new w 24 [.int .i64 N, .slice A T.length cap]
  have hTA := hT.below keeps_tri (hb1.mono hB0)
  have hbl := hbox.lt
  have c0 := hbox.cell 0
  have c1 := hbox.cell 1
  simp only [List.getElem?_cons_zero, List.getElem?_cons_succ] at c0 c1
  generalize hw0 : w.alloc (.cells #[.int .i64 N, .slice A T.length cap] 24) = w0 at *
  have haw := awake_calls w0
  have hz0 := hb1.size
  have HhT := Lib.hid hT; have Hhbox := Lib.hid hbox; have HhTA := Lib.hid hTA; have Hhaw := Lib.hid haw; clear hT hbox hTA haw
  go_enter Try.func5, Try.ntmps5
  go_wp2_with fail
  clear hw0
  refine Hhaw.out.mono ?_
  rintro e w1 ⟨rfl, hb2⟩
  have hb3 := below_call hb1 hb2 hb1.size
  have d0 : w1.cell? ⟨w.heap.size, 0, none⟩ = some (.int .i64 N) := (hb2.cell (p := ⟨w.heap.size, 0, none⟩) hbl).trans c0
  have d1 : w1.cell? ⟨w.heap.size, 1, none⟩ = some (.slice A T.length cap) := (hb2.cell (p := ⟨w.heap.size, 1, none⟩) hbl).trans c1
  have hT1 := HhTA.out.below keeps_tri (hb2.mono (by omega))
  have hz1 := hb2.size
  have htb := table_calls hT1 (by omega) hN
  have HhT1 := Lib.hid hT1; have Hhtb := Lib.hid htb; clear hT1 htb
  go_wp2_with fail
  refine Hhtb.out.mono ?_
  intro e w2 htd
  obtain ⟨pv, B', N', T', rfl, hs, htab, hb4, hor⟩ := tabled_tab htd
  have hb5 := below_call hb3 hb4 hb3.size
  have hz2 := hb4.size
  rcases hor with ⟨rfl, rfl, rfl, -⟩ | ⟨g, rfl, rfl, rfl, hsm⟩
  · have Hhtd := Lib.hid htd; have Hhs := Lib.hid hs; have Hhtab := Lib.hid htab; clear htd hs htab
    go_wp2_with fail
    go_ret
    exact ⟨rfl, hb5⟩
  · have e0 : w2.cell? ⟨w.heap.size, 0, none⟩ = some (.int .i64 N') := (hb4.cell (p := ⟨w.heap.size, 0, none⟩) (by show w.heap.size < _; omega)).trans d0
    have e1 : w2.cell? ⟨w.heap.size, 1, none⟩ = some (.slice A T'.length cap) := (hb4.cell (p := ⟨w.heap.size, 1, none⟩) (by show w.heap.size < _; omega)).trans d1
    have hT2 := HhT1.out.below keeps_tri (hb4.mono (by omega))
    have hlen := hs.ring_len v
    have h40 := hsm.1
    have hbw2 : w.heap.size < w2.heap.size := by omega
    clear c0 c1 d0 d1 hb1 hb2 hb3 hb4 hz0 hz1 hz2 hbl
    clear hlen v
    have hle := htab.le
    have hm1 := run_make_rep (P := Try.prog) 28 Try.underlying28 infoInt rfl (3 * T'.length) (by omega) (by omega)
    obtain ⟨n3, hn3, hn4⟩ : ∃ n3 : Nat, 3 * (T'.length : Int) = (n3 : Int) ∧ 3 * T'.length = n3 := ⟨3 * T'.length, by omega, rfl⟩
    rw [hn4] at hm1
    have h60 := hsm.2
    have hg0 : gvals (seenF T' N' ((0 : Nat) : Int) 0) n3 = List.replicate n3 (.int .i64 0) := by
      apply List.ext_getElem?
      intro c
      by_cases hc : c < n3
      · rw [gvals_at _ hc, List.getElem?_replicate, if_pos hc, seenF_zero, if_neg]
        have := hs.rng c (by omega)
        omega
      · rw [List.getElem?_eq_none (by unfold gvals; simp; omega), List.getElem?_eq_none (by simp; omega)]
    have hB1 := (Below.refl w2.heap.size w2).alloc (Nat.le_refl _) (.cells (Array.replicate n3 (Value.int .i64 0)) 3)
    have hbk : Bk (w2.alloc (.cells (Array.replicate n3 (Value.int .i64 0)) 3)) w2.heap.size 3 (gvals (seenF T' N' ((0 : Nat) : Int) 0) n3) := by
      rw [hg0, ← List.toArray_replicate]; exact Bk.new w2 3 _
    generalize hwa : w2.alloc (.cells (Array.replicate n3 (Value.int .i64 0)) 3) = wa at *
    have hgs := hbk.lt
    have Hhtd := Lib.hid htd; have Hhs := Lib.hid hs; have Hhtab := Lib.hid htab; have HhT2 := Lib.hid hT2; have Hhsm := Lib.hid hsm; have Hhbk := Lib.hid hbk; have Hhn4 := Lib.hid hn4; have Hhg0 := Lib.hid hg0; clear htd hs htab hT2 hsm hbk hn4 hg0
    go_wp2_with fail
    clear hm1 hwa
    go_loopw [5, 6] (fun s i wr => ∃ k : Nat, (k : Int) ≤ N' ∧ i = .int .i64 k ∧ s = .int .i64 (Mesh.below T' k) ∧ Bk wr w2.heap.size 3 (gvals (seenF T' N' k 0) n3) ∧ Below w2.heap.size w2 wr) (fun _ i _ => N'.toNat - (intOf i).toNat)
    case atStart => exact ⟨0, by omega, rfl, by rw [show Mesh.below T' ((0 : Nat) : Int) = 0 from below_zero Hhs.out]; rfl, Hhbk.out, hB1⟩
    case round =>
      obtain ⟨k, hk, rfl, rfl, hbkr, hbel⟩ := hrel
      have f0 : wr.cell? ⟨w.heap.size, 0, none⟩ = some (.int .i64 N') := (hbel.cell (p := ⟨w.heap.size, 0, none⟩) hbw2).trans e0
      have f1 : wr.cell? ⟨w.heap.size, 1, none⟩ = some (.slice A T'.length cap) := (hbel.cell (p := ⟨w.heap.size, 1, none⟩) hbw2).trans e1
      have hgr := hbkr.lt
      have hzr := hbel.size
      have htr := Hhtab.out.below (hbel.mono hle) (Nat.le_refl _)
      by_cases hkn : (k : Int) < N'
      · have hli := list_calls htr Hhs.out k 200 (by omega) (by omega)
        have hlen := Hhs.out.ring_len k
        rw [List.take_of_length_le (by omega)] at hli
        have hd := fun wz (hz : TabN wz B' (.pointer (some g)) N' T') => degree_calls hz Hhs.out k
        obtain ⟨hL0, hr⟩ := Hhs.out.ring_in (v := k) ⟨by omega, hkn⟩
        have hseen := fun i (hi : i < (ringAt T' N' k).length) => Hhs.out.seen_at k hi
        have hnext := Hhs.out.seen_next k
        have hsum := below_succ Hhs.out k
        have hble := below_le T' k
        have hmem := fun i (hi : i < (ringAt T' N' k).length) => (Hhs.out.ring_mem k _).1 (List.getElem_mem hi)
        generalize hL : ringAt T' N' k = L at *
        have hL0i : ((L.length : Int) == 0) = false := by rw [beq_eq_false_iff_ne]; omega
        generalize Mesh.below T' k = b9 at *
        have Hhbkr := Lib.hid hbkr; have Hhtr := Lib.hid htr; have Hhli := Lib.hid hli; have Hhd := Lib.hid hd; have Hhr := Lib.hid hr; have Hhseen := Lib.hid hseen; have Hhnext := Lib.hid hnext; have Hhsum := Lib.hid hsum; have Hhmem := Lib.hid hmem; have HhL := Lib.hid hL; clear hbkr htr hli hd hr hseen hnext hsum hmem hL
        go_wp2_with fail
        refine Hhli.out.mono ?_
        rintro e w3 ⟨⟨r, rfl, hown⟩, hb6⟩
        have hz3 := hb6.size
        obtain ⟨A3, cap3, rfl, hc3⟩ := own_form hown
        have hB3 := hbel.trans (hb6.mono hzr)
        have h4 := Hhd.out w3 (Hhtr.out.below (hb6.mono Hhtr.out.le) (Nat.le_refl _))
        have Hhown := Lib.hid hown; have Hh4 := Lib.hid h4; clear hown h4
        go_wp2_with fail
        refine Hh4.out.mono ?_
        rintro e w4 ⟨rfl, hb7⟩
        have hb47 := hb6.trans (hb7.mono hz3)
        have hz4 := hb47.size
        have h5 := Hhd.out w4 (Hhtr.out.below (hb47.mono Hhtr.out.le) (Nat.le_refl _))
        have Hh5 := Lib.hid h5; clear h5
        go_wp2_with fail
        refine Hh5.out.mono ?_
        rintro e w5 ⟨rfl, hb8⟩
        have hb58 := hb47.trans (hb8.mono hz4)
        have hz5 := hb58.size
        have hown5 := own_below Hhown.out ((hb7.trans (hb8.mono hb7.size))) (Nat.le_refl _)
        have hbk5 := Hhbkr.out.below hb58 hgr
        have hB5 := hbel.trans (hb58.mono hzr)
        have ht5 := Hhtab.out.below (hB5.mono hle) (Nat.le_refl _)
        obtain ⟨g3, rfl⟩ := own_addr hown5 hL0
        have Hhown5 := Lib.hid hown5; have Hhbk5 := Lib.hid hbk5; have Hht5 := Lib.hid ht5; clear hown5 hbk5 ht5
        go_wp2_with fail
        go_loopw [8] (fun i wr => ∃ m : Nat, m ≤ L.length ∧ i = .int .i64 m ∧ Bk wr w2.heap.size 3 (gvals (seenF T' N' k m) n3) ∧ Below w2.heap.size w2 wr ∧ wr.ownsRow (w2.heap.size + 1) 3 1 (.slice (some ⟨g3, 0, none⟩) L.length cap3) L.length (nvals L)) (fun i _ => L.length - (intOf i).toNat)
        case atStart => exact ⟨0, by omega, rfl, Hhbk5.out, hB5, own_base Hhown5.out (by omega)⟩
        case round =>
          obtain ⟨m, hm, rfl, hbkm, hbm, hom⟩ := hrel
          have hzm := hbm.size
          have g0 : wr.cell? ⟨w.heap.size, 0, none⟩ = some (.int .i64 N') := (hbm.cell (p := ⟨w.heap.size, 0, none⟩) hbw2).trans e0
          by_cases hml : m < L.length
          · obtain ⟨hcell, hgm, -⟩ := own_nat_at hom rfl hml
            have hcm := Hhmem.out m hml
            obtain ⟨hs1, hs2, hs3⟩ := Hhseen.out m hml
            have htm := Hhtab.out.below (hbm.mono hle) (Nat.le_refl _)
            have hvx := tab_vertex htm hcm.1
            rw [hcm.2] at hvx
            have hn34 := Hhn4.out
            have hc3n : L[m] < n3 := by omega
            have hold := hbkm.cell L[m]
            rw [gvals_at _ hc3n, hs1] at hold
            have hfro := hbkm.frozen L[m]
            have hset := gvals_set (seenF T' N' k m) (seenF T' N' k (m + 1)) n3 L[m] hs3
            rw [hs2] at hset
            have hbkn := hbkm.set L[m] (.int .i64 1)
            rw [hset] at hbkn
            have hgm2 := hbkm.lt
            have hcn : (0 : Int) ≤ (L[m] : Int) ∧ (L[m] : Int) < (n3 : Int) := by omega
            have hon : ∀ u, (wr.setCell ⟨w2.heap.size, L[m], none⟩ u).ownsRow (w2.heap.size + 1) 3 1 (.slice (some ⟨g3, 0, none⟩) L.length cap3) L.length (nvals L) := fun u => hom.kept (row := some w2.heap.size) ⟨rfl, rfl, rfl, (KeepsWalks.setCell wr _ u).size, fun b _ hb => Below.heap_setCell _ _ _ b (fun e => hb (by rw [e]))⟩ (.inr fun h9 => by have := (hom.lt _ h9).1; omega)
            obtain ⟨hc1, hc2⟩ := hcn
            generalize hlm : L[m] = lm at *
            have Hhbkm := Lib.hid hbkm; have Hhom := Lib.hid hom; have Hhcm := Lib.hid hcm; have Hhs1 := Lib.hid hs1; have Hhs2 := Lib.hid hs2; have Hhs3 := Lib.hid hs3; have Hhtm := Lib.hid htm; have Hhvx := Lib.hid hvx; have Hhset := Lib.hid hset; have Hhbkn := Lib.hid hbkn; have Hhon := Lib.hid hon; have Hhlm := Lib.hid hlm; have Hhn34 := Lib.hid hn34; clear hbkm hom hcm hs1 hs2 hs3 htm hvx hset hbkn hon hlm hn34
            go_wp2_with fail
            refine Hhvx.out.mono ?_
            rintro e w' ⟨rfl, rfl⟩
            go_wp2_with fail
            exact ⟨⟨m + 1, by omega, by simp, Hhbkn.out, hbm.setCell (p := ⟨w2.heap.size, lm, none⟩) (Nat.le_refl _) _, Hhon.out _⟩, by simp [intOf]; omega⟩
          · obtain rfl : m = L.length := by omega
            have hcg := gvals_congr _ _ n3 (fun c hc => Hhnext.out c (by have := Hhn4.out; omega))
            rw [hcg] at hbkm
            have hsm2 := Hhsum.out
            have hbb : (b9 : Int) ≤ 120 := by omega
            have Hhbkm := Lib.hid hbkm; have Hhom := Lib.hid hom; have Hhcg := Lib.hid hcg; have Hhsm2 := Lib.hid hsm2; clear hbkm hom hcg hsm2
            go_wp2_with fail
            refine ⟨⟨k + 1, by omega, by simp, ?_, Hhbkm.out, hbm⟩, by simp [intOf]; omega⟩
            show Value.int .i64 _ = Value.int .i64 _
            rw [show (((k + 1 : Nat) : Nat) : Int) = (k : Int) + 1 from rfl, Hhsm2.out]
            rfl
      · have hkN : (k : Int) = N' := by omega
        have hone := gvals_congr (seenF T' N' k 0) (fun _ => 1) n3 (fun c hc => by rw [hkN]; exact Hhs.out.seen_all (by have := Hhn4.out; omega))
        rw [hone] at hbkr
        have hsum : (Mesh.below T' k : Int) = n3 := by rw [hkN, below_all Hhs.out]; have := Hhn4.out; omega
        generalize Mesh.below T' k = b9 at *
        have Hhbkr := Lib.hid hbkr; have Hhtr := Lib.hid htr; have Hhone := Lib.hid hone; have Hhsum := Lib.hid hsum; have HhkN := Lib.hid hkN; clear hbkr htr hone hsum hkN
        go_wp2_with fail
        go_loopw [9] (fun i wz => ∃ m : Nat, m ≤ n3 ∧ i = .int .i64 m ∧ wz = wr) (fun i _ => n3 - (intOf i).toNat)
        case atStart => exact ⟨0, by omega, rfl, rfl⟩
        case round =>
          obtain ⟨m, hm, rfl, hw9⟩ := hrel
          subst hw9
          by_cases hmn : m < n3
          · have hcell := Hhbkr.out.cell m
            rw [gvals_at _ hmn] at hcell
            have hgm2 := Hhbkr.out.lt
            go_wp2_with fail
            exact ⟨⟨m + 1, by omega, by simp, trivial⟩, by simp [intOf]; omega⟩
          · obtain rfl : m = n3 := by omega
            have hfin := below_call hb5 hbel hb5.size
            go_wp2_with fail
            go_ret
            exact ⟨ret_bool (by rw [Hhsum.out]; simp), hfin⟩
end Go.Proofs.Ytckkpmjkajkkmaa
