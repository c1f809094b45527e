/- The law RingLinks, walked. -/
import Derived.Deep.CutBlock
import Derived.Deep.DeepCutAuto
import Derived.Test.YtckkpmjkajkkmaaVC
namespace Go.Mesh
theorem near_mem {N : Int} {T : List T3} (h : Surf N T) {v : Int} (hv : 0 ≤ v ∧ v < N) (w : Int) : near T v w = decide (w ∈ linkAt T N v) := by
  rw [Bool.eq_iff_iff, near_iff h hv]; simp
end Go.Mesh
namespace Go.Proofs.Ytckkpmjkajkkmaa
open Go Go.RowKit Go.Words Go.Mesh

def bfs (f : Nat → Bool) (n : Nat) : List Value := (List.range n).map fun c => .bool (f c)
theorem bfs_at (f : Nat → Bool) {n c : Nat} (hc : c < n) : (bfs f n)[c]? = some (.bool (f c)) := by unfold bfs; simp [hc]
theorem bfs_set (f f' : Nat → Bool) (n c : Nat) (h1 : ∀ d, d ≠ c → f' d = f d) : (bfs f n).set c (.bool (f' c)) = bfs f' n := by
  apply List.ext_getElem?
  intro d
  rw [List.getElem?_set]
  by_cases hd : c = d
  · subst hd
    by_cases hc : c < n
    · rw [if_pos rfl, if_pos (by unfold bfs; simpa using hc), bfs_at f' hc]
    · rw [if_pos rfl, if_neg (by unfold bfs; simpa using hc)]
      unfold bfs; simp [hc]
  · rw [if_neg hd]
    by_cases hc : d < n
    · rw [bfs_at f hc, bfs_at f' hc, h1 d (fun e => hd e.symm)]
    · unfold bfs; simp [hc]
theorem bfs_false (n : Nat) : bfs (fun _ => false) n = List.replicate n (.bool false) := by
  unfold bfs
  apply List.ext_getElem?
  intro c
  by_cases hc : c < n
  · rw [List.getElem?_map, List.getElem?_range hc, List.getElem?_replicate, if_pos hc]; rfl
  · rw [List.getElem?_eq_none (by simp; omega), List.getElem?_eq_none (by simp; omega)]
theorem infoBool : (Try.prog.info? 4).map (fun i => (i.zero, i.size, i.bytes)) = some (some (.bool false), 1, 1) := by kernel_rfl
theorem own_int_at {w : World} {base g n cap : Nat} {l : List Int} (h : w.ownsRow base 3 1 (.slice (some ⟨g, 0, none⟩) n cap) n (ivals l)) (hl : l.length = n) {i : Nat} (hi : i < l.length) :
    w.cell? ⟨g, i, none⟩ = some (.int .i64 l[i]) ∧ g < w.heap.size ∧ base ≤ g := by
  have hb := h.lt g rfl
  subst hl
  have hs := sl_ivals h
  obtain ⟨b, o, cs, h1, h2, h3, h4, h5⟩ := Sl.at_ hs (List.getElem?_eq_getElem hi)
  injection h1 with h1
  injection h1 with h1 h6
  subst h1; subst h6
  unfold RInt at h4
  subst h4
  refine ⟨?_, hb.2, hb.1⟩
  have := h5 0 _ rfl
  simpa using this
set_option maxRecDepth 100000 in
set_option maxHeartbeats 2000000 in
theorem links_law (sv : Value) (N : Int) (T : List T3) (v : Int) (w : World) {B : Nat} (hB0 : B ≤ w.heap.size) (hT : Sl 3 RTri w B sv T) (hN : I64 N) (hv9 : I64 v) :
    Calls Try.prog 13 #[.agg #[.int .i64 N, sv], .int .i64 v] w fun e w' => e = .returned (.bool true) ∧ Below w.heap.size w w' := by
  obtain ⟨A, cap, rfl, hcap⟩ := hT.form
  have hb1 := (Below.refl w.heap.size w).alloc (Nat.le_refl _) (.cells #[.int .i64 N, .slice A T.length cap] 24)
  have hbox := Bk.new w 24 [.int .i64 N, .slice A T.length cap]
  have hTA := hT.below keeps_tri (hb1.mono hB0)
  have hbl := hbox.lt
  have c0 := hbox.cell 0
  have c1 := hbox.cell 1
  simp only [List.getElem?_cons_zero, List.getElem?_cons_succ] at c0 c1
  generalize hw0 : w.alloc (.cells #[.int .i64 N, .slice A T.length cap] 24) = w0 at *
  have haw := awake_calls w0
  have hz0 := hb1.size
  have HhT := Lib.hid hT; have Hhbox := Lib.hid hbox; have HhTA := Lib.hid hTA; have Hhaw := Lib.hid haw; clear hT hbox hTA haw
  go_enter Try.func13, Try.ntmps13
  go_wp2_with fail
  clear hw0
  refine Hhaw.out.mono ?_
  rintro e w1 ⟨rfl, hb2⟩
  have hb3 := below_call hb1 hb2 hb1.size
  have d0 : w1.cell? ⟨w.heap.size, 0, none⟩ = some (.int .i64 N) := (hb2.cell (p := ⟨w.heap.size, 0, none⟩) hbl).trans c0
  have d1 : w1.cell? ⟨w.heap.size, 1, none⟩ = some (.slice A T.length cap) := (hb2.cell (p := ⟨w.heap.size, 1, none⟩) hbl).trans c1
  have hT1 := HhTA.out.below keeps_tri (hb2.mono (by omega))
  have hz1 := hb2.size
  have htb := table_calls hT1 (by omega) hN
  have HhT1 := Lib.hid hT1; have Hhtb := Lib.hid htb; clear hT1 htb
  go_wp2_with fail
  refine Hhtb.out.mono ?_
  intro e w2 htd
  obtain ⟨pv, B', N', T', rfl, hs, htab, hb4, hor⟩ := tabled_tab htd
  have hb5 := below_call hb3 hb4 hb3.size
  have hz2 := hb4.size
  rcases hor with ⟨rfl, rfl, rfl, -⟩ | ⟨g, rfl, rfl, rfl, hsm⟩
  · have Hhtd := Lib.hid htd; have Hhs := Lib.hid hs; have Hhtab := Lib.hid htab; clear htd hs htab
    go_wp2_with fail
    go_ret
    exact ⟨rfl, hb5⟩
  · have e0 : w2.cell? ⟨w.heap.size, 0, none⟩ = some (.int .i64 N') := (hb4.cell (p := ⟨w.heap.size, 0, none⟩) (by show w.heap.size < _; omega)).trans d0
    have e1 : w2.cell? ⟨w.heap.size, 1, none⟩ = some (.slice A T'.length cap) := (hb4.cell (p := ⟨w.heap.size, 1, none⟩) (by show w.heap.size < _; omega)).trans d1
    have hT2 := HhT1.out.below keeps_tri (hb4.mono (by omega))
    have hlen := hs.ring_len v
    have h40 := hsm.1
    have hbw2 : w.heap.size < w2.heap.size := by omega
    clear c0 c1 d0 d1 hb1 hb2 hb3 hb4 hz0 hz1 hz2 hbl
    by_cases hv : 0 ≤ v ∧ v < N'
    case neg =>
      have hv2 : v < 0 ∨ (0 ≤ v ∧ N' ≤ v) := by omega
      clear hv
      have Hhtd := Lib.hid htd; have Hhs := Lib.hid hs; have Hhtab := Lib.hid htab; have HhT2 := Lib.hid hT2; have Hhsm := Lib.hid hsm; clear htd hs htab hT2 hsm
      rcases hv2 with hv2 | ⟨hv2, hv3⟩
      · go_wp2_with fail
        go_ret
        exact ⟨rfl, hb5⟩
      · go_wp2_with fail
        go_ret
        exact ⟨rfl, hb5⟩
    case pos =>
      obtain ⟨hv1, hv2⟩ := hv
      have hle := htab.le
      have hlk := link_calls htab hs v
      have hin := fun wz (hz : TabN wz B' (.pointer (some g)) N' T') => inner_calls hz hs v
      have hdg := fun wz (hz : TabN wz B' (.pointer (some g)) N' T') => degree_calls hz hs v
      have hnr := fun wz x y (hx : I64 x) (hy : I64 y) (hz : TabN wz B' (.pointer (some g)) N' T') => near_calls hz x y hx hy
      have hll := link_len hs ⟨hv1, hv2⟩
      have hnext := fun i (hi : i < (ringAt T' N' v).length) => link_next hs ⟨hv1, hv2⟩ hi
      have hnear := fun i (hi : i < (ringAt T' N' v).length) x y => link_near hs ⟨hv1, hv2⟩ hi (x := x) (y := y)
      have hrng := fun x => link_rng hs ⟨hv1, hv2⟩ (x := x)
      have hnd := link_nodup hs ⟨hv1, hv2⟩
      have hmem := near_mem hs ⟨hv1, hv2⟩
      generalize hK : linkAt T' N' v = K9 at *
      generalize hL : ringAt T' N' v = L at *
      obtain ⟨nN, hnN, hnN2⟩ : ∃ nN : Nat, N' = (nN : Int) ∧ N'.toNat = nN := ⟨N'.toNat, by omega, rfl⟩
      have h60 := hsm.2.2
      have hm1 := run_make_rep (P := Try.prog) 66 Try.underlying66 infoBool rfl nN (by omega) (by omega)
      clear hnN2
      subst hnN
      have Hhtd := Lib.hid htd; have Hhs := Lib.hid hs; have Hhtab := Lib.hid htab; have HhT2 := Lib.hid hT2; have Hhsm := Lib.hid hsm; have Hhlk := Lib.hid hlk; have Hhin := Lib.hid hin; have Hhdg := Lib.hid hdg; have Hhnr := Lib.hid hnr; have Hhll := Lib.hid hll; have Hhnext := Lib.hid hnext; have Hhnear := Lib.hid hnear; have Hhrng := Lib.hid hrng; have Hhnd := Lib.hid hnd; have Hhmem := Lib.hid hmem; have HhK := Lib.hid hK; have HhL := Lib.hid hL; clear htd hs htab hT2 hsm hlk hin hdg hnr hll hnext hnear hrng hnd hmem hK hL
      go_wp2_with fail
      refine Hhlk.out.mono ?_
      rintro e w3 ⟨⟨r, rfl, hown⟩, hb6⟩
      have hz3 := hb6.size
      have hin := Hhin.out w3 (Hhtab.out.below (hb6.mono hle) (Nat.le_refl _))
      obtain ⟨A3, cap3, rfl, hc3⟩ := own_form hown
      obtain ⟨mo, hmo⟩ : ∃ mo : Nat, mo = if innerAt T' nN v = true then 0 else 1 := ⟨_, rfl⟩
      generalize hI : innerAt T' nN v = I9 at *
      have Hhown := Lib.hid hown; have Hhin := Lib.hid hin; have HhI := Lib.hid hI; clear hown hin hI
      go_wp2_with fail
      refine Hhin.out.mono ?_
      rintro e w4 ⟨rfl, hb7⟩
      go_upto_if 32 with fail
      go_cut [7] (fun s7 wx => s7 = .int .i64 (mo : Int) ∧ wx = w4)
      case first =>
        cases I9 with
        | true =>
          go_wp2_with fail
          go_meet
          exact ⟨by rw [hmo]; rfl, rfl⟩
        | false =>
          go_wp2_with fail
          go_meet
          exact ⟨by rw [hmo]; rfl, rfl⟩
      case rest =>
        obtain ⟨rfl, rfl⟩ := hcut
        have hll2 : (L.length : Int) + (mo : Int) = (K9.length : Int) := by rw [Hhll.out, ← hmo]; omega
        have hmo1 : mo = 0 ∨ mo = 1 := by rw [hmo]; split <;> omega
        have hz4 := hb7.size
        have hb67 := hb6.trans (hb7.mono hz3)
        have hdg := Hhdg.out wc (Hhtab.out.below (hb67.mono hle) (Nat.le_refl _))
        have Hhmo := Lib.hid hmo; have Hhdg := Lib.hid hdg; clear hmo hdg
        go_wp2_with fail
        refine Hhdg.out.mono ?_
        rintro e w5 ⟨rfl, hb8⟩
        have hb58 := hb67.trans (hb8.mono hb67.size)
        have hz5 := hb58.size
        have f0 : w5.cell? ⟨w.heap.size, 0, none⟩ = some (.int .i64 nN) := (hb58.cell (p := ⟨w.heap.size, 0, none⟩) hbw2).trans e0
        have hown5 := own_below Hhown.out (hb7.trans (hb8.mono hb7.size)) (Nat.le_refl _)
        have htab5 := Hhtab.out.below (hb58.mono hle) (Nat.le_refl _)
        have hb59 := below_call hb5 hb58 hb5.size
        have hB1 := (Below.refl w5.heap.size w5).alloc (Nat.le_refl _) (.cells (Array.replicate nN (Value.bool false)) 4)
        have hbk : Bk (w5.alloc (.cells (Array.replicate nN (Value.bool false)) 4)) w5.heap.size 4 (bfs (fun c => decide ((c : Int) ∈ K9.take 0)) nN) := by
          rw [show (fun c : Nat => decide ((c : Int) ∈ K9.take 0)) = fun _ => false from by funext c; simp, bfs_false, ← List.toArray_replicate]; exact Bk.new w5 4 _
        have hgs : w.heap.size < w5.heap.size := by omega
        generalize hwa : w5.alloc (.cells (Array.replicate nN (Value.bool false)) 4) = wa at *
        have hKn : K9.length ≤ 100 := by have := hll2; omega
        have Hhown5 := Lib.hid hown5; have Hhtab5 := Lib.hid htab5; have Hhbk := Lib.hid hbk; clear hown5 htab5 hbk
        go_wp2_with fail
        clear hm1 hwa
        go_loopw [9] (fun i wr => ∃ k : Nat, k ≤ K9.length ∧ i = .int .i64 k ∧ Bk wr w5.heap.size 4 (bfs (fun c => decide ((c : Int) ∈ K9.take k)) nN) ∧ Below w5.heap.size w5 wr) (fun i _ => K9.length - (intOf i).toNat)
        case atStart => exact ⟨0, by omega, rfl, Hhbk.out, hB1⟩
        case round =>
          obtain ⟨k, hk, rfl, hbkr, hbel⟩ := hrel
          have hzr := hbel.size
          have hgr := hbkr.lt
          have p0 : wr.cell? ⟨w.heap.size, 0, none⟩ = some (.int .i64 nN) := (hbel.cell (p := ⟨w.heap.size, 0, none⟩) hgs).trans f0
          have hownr := own_below Hhown5.out hbel (Nat.le_refl _)
          by_cases hkl : k < K9.length
          · obtain ⟨g3, rfl⟩ := own_addr hownr (by omega)
            obtain ⟨hcell, hg3, -⟩ := own_int_at hownr rfl hkl
            have hg35 : g3 < w5.heap.size := (Hhown5.out.lt g3 rfl).2
            obtain ⟨hx0, hx1, hx2⟩ := Hhrng.out K9[k] (List.getElem_mem hkl)
            obtain ⟨xn, hxn⟩ : ∃ xn : Nat, K9[k] = (xn : Int) := ⟨K9[k].toNat, by omega⟩
            have htk := List.take_succ_eq_append_getElem hkl
            have hnot : (xn : Int) ∉ K9.take k := by
              intro hin
              have h2 : (K9.take (k + 1)).Nodup := Hhnd.out.sublist (List.take_sublist _ _)
              rw [htk, List.nodup_append] at h2
              exact h2.2.2 _ hin _ (by simp) hxn.symm
            have hxlt : xn < nN := by omega
            have hold := hbkr.cell xn
            rw [bfs_at _ hxlt, decide_eq_false hnot] at hold
            have hfro := hbkr.frozen xn
            have hset := bfs_set (fun c => decide ((c : Int) ∈ K9.take k)) (fun c => decide ((c : Int) ∈ K9.take (k + 1))) nN xn (fun d hd => by
              have : (d : Int) ∈ K9.take (k + 1) ↔ (d : Int) ∈ K9.take k := by
                rw [htk, List.mem_append, List.mem_singleton, hxn]
                exact ⟨fun h => h.resolve_right (fun e => hd (by omega)), .inl⟩
              simp only [this])
            rw [show decide ((xn : Int) ∈ K9.take (k + 1)) = true from decide_eq_true (by rw [htk, hxn]; exact List.mem_append_right _ (List.mem_singleton.2 rfl))] at hset
            have hbkn := hbkr.set xn (.bool true)
            rw [hset] at hbkn
            have hbeln := hbel.setCell (p := ⟨w5.heap.size, xn, none⟩) (Nat.le_refl _) (.bool true)
            have hownn := own_below Hhown5.out hbeln (Nat.le_refl _)
            rw [hxn] at hcell
            have hxv : ((xn : Int) == v) = false := by rw [beq_eq_false_iff_ne, ← hxn]; exact hx2
            have hxi : (xn : Int) < (nN : Int) := by omega
            have hxI : I64 (xn : Int) := by unfold I64; omega
            have hnr9 := Hhnear.out k
            have hkx : K9[k]? = some (xn : Int) := by rw [List.getElem?_eq_getElem hkl, hxn]
            have hyy : ∀ hmod : (k + 1) % K9.length < K9.length, ∃ y : Int, K9[(k + 1) % K9.length]'hmod = y ∧ I64 y := fun hmod => by
              have := Hhrng.out _ (List.getElem_mem hmod)
              exact ⟨_, rfl, by unfold I64; omega⟩
            obtain ⟨j, hj, hj2⟩ : ∃ j : Nat, ((k : Int) + 1) % (K9.length : Int) = (j : Int) ∧ (k + 1) % K9.length = j := ⟨(k + 1) % K9.length, rfl, rfl⟩
            have hjl : j < K9.length := by rw [← hj2]; exact Nat.mod_lt _ (by omega)
            rw [hj2] at hnr9 hyy
            obtain ⟨y, hy, hyI⟩ := hyy hjl
            obtain ⟨hcellj, -, -⟩ := own_int_at hownn rfl hjl
            rw [hy] at hcellj
            have hji : (j : Int) < (K9.length : Int) := by omega
            have hky : K9[j]? = some y := by rw [List.getElem?_eq_getElem hjl, hy]
            have hnear9 := fun h9 => hnr9 h9 _ _ hkx hky
            clear hyy hx0 hx1 hx2 hnot hj2
            have Hhownr := Lib.hid hownr; have Hhbkr := Lib.hid hbkr; have Hhxn := Lib.hid hxn; have Hhtk := Lib.hid htk; have Hhset := Lib.hid hset; have Hhbkn := Lib.hid hbkn; have Hhownn := Lib.hid hownn; have Hhnr9 := Lib.hid hnr9; have Hhkx := Lib.hid hkx; have Hhy := Lib.hid hy; have Hhky := Lib.hid hky; have Hhnear9 := Lib.hid hnear9; clear hownr hbkr hxn htk hset hbkn hownn hnr9 hkx hy hky hnear9
            go_wp2_with fail
            refine Go.Canon.wp_region_text mixed (by kernel_rfl) ?_
            go_wp2_with fail
            refine Go.Canon.chk (by rfl) ?_
            go_wp2_with fail
            by_cases hk1 : k + 1 < K9.length
            · have hk1i : (k : Int) + 1 < (K9.length : Int) := by omega
              have hnt := Hhnear9.out (by omega)
              have Hhnt := Lib.hid hnt; clear hnt
              refine Go.Canon.wp_region_text mixed (by kernel_rfl) ?_
              go_wp2_with fail
              refine (Hhnr.out _ _ _ hxI hyI (Hhtab5.out.below (hbeln.drew.drew.mono Hhtab5.out.le) (Nat.le_refl _))).mono ?_
              rintro e w9 ⟨he, hb9⟩
              rw [Hhnt.out] at he
              subst he
              have hbk9 := (Hhbkn.out.drew.drew).below hb9 Hhbkn.out.lt
              have hbel9 := hbeln.drew.drew.trans (hb9.mono hbeln.drew.drew.size)
              have Hhbk9 := Lib.hid hbk9; clear hbk9
              go_wp2_with fail
              refine Go.Canon.chk (by rfl) ?_
              go_wp2_with fail
              exact ⟨⟨k + 1, by omega, by simp, Hhbk9.out, hbel9⟩, by simp [intOf]; omega⟩
            · have hk1i : (K9.length : Int) ≤ (k : Int) + 1 := by omega
              rcases hmo1 with hmz | hmz
              · have hmb : ((mo : Int) == 0) = true := by rw [hmz]; rfl
                have hkL : k < L.length := by omega
                clear hmz
                have hnt := Hhnear9.out (by omega)
                have Hhnt := Lib.hid hnt; clear hnt
                refine Go.Canon.wp_region_text mixed (by kernel_rfl) ?_
                go_wp2_with fail
                refine (Hhnr.out _ _ _ hxI hyI (Hhtab5.out.below (hbeln.drew.drew.mono Hhtab5.out.le) (Nat.le_refl _))).mono ?_
                rintro e w9 ⟨he, hb9⟩
                rw [Hhnt.out] at he
                subst he
                have hbk9 := (Hhbkn.out.drew.drew).below hb9 Hhbkn.out.lt
                have hbel9 := hbeln.drew.drew.trans (hb9.mono hbeln.drew.drew.size)
                have Hhbk9 := Lib.hid hbk9; clear hbk9
                go_wp2_with fail
                refine Go.Canon.chk (by rfl) ?_
                go_wp2_with fail
                exact ⟨⟨k + 1, by omega, by simp, Hhbk9.out, hbel9⟩, by simp [intOf]; omega⟩
              · have hmb : ((mo : Int) == 0) = false := by rw [hmz]; rfl
                clear hmz
                refine Go.Canon.wp_region_text mixed (by kernel_rfl) ?_
                go_wp2_with fail
                refine Go.Canon.chk (by rfl) ?_
                go_wp2_with fail
                exact ⟨⟨k + 1, by omega, by simp, Hhbkn.out.drew.drew, hbeln.drew.drew⟩, by simp [intOf]; omega⟩
          · obtain rfl : k = K9.length := by omega
            have hbn : Bk wr w5.heap.size 4 (bfs (fun c => near T' v (c : Int)) nN) := by
              rw [show (fun c : Nat => near T' v (c : Int)) = fun c : Nat => decide ((c : Int) ∈ K9.take K9.length) from by funext c; rw [Hhmem.out, List.take_length]]
              exact hbkr
            have Hhownr := Lib.hid hownr; have Hhbkr := Lib.hid hbkr; have Hhbn := Lib.hid hbn; clear hownr hbkr hbn
            go_wp2_with fail
            go_loopw [10] (fun i wz => ∃ m : Nat, m ≤ nN ∧ i = .int .i64 m ∧ Bk wz w5.heap.size 4 (bfs (fun c => near T' v (c : Int)) nN) ∧ Below w5.heap.size w5 wz) (fun i _ => nN - (intOf i).toNat)
            case atStart => exact ⟨0, by omega, rfl, Hhbn.out, hbel⟩
            case round =>
              clear p0 hzr hgr hk
              obtain ⟨m, hm, rfl, hbm, hbelm⟩ := hrel
              have hzm := hbelm.size
              have hgm := hbm.lt
              have p1 : wr.cell? ⟨w.heap.size, 0, none⟩ = some (.int .i64 nN) := (hbelm.cell (p := ⟨w.heap.size, 0, none⟩) hgs).trans f0
              by_cases hmn : m < nN
              · have hcell := hbm.cell m
                rw [bfs_at _ hmn] at hcell
                have hmI : I64 (m : Int) := by unfold I64; omega
                have hn1 := Hhnr.out _ v (m : Int) hv9 hmI (Hhtab5.out.below (hbelm.drew.mono Hhtab5.out.le) (Nat.le_refl _))
                have hn2 := fun wz => Hhnr.out wz (m : Int) v hmI hv9
                rw [near_comm T' (m : Int) v] at hn2
                generalize near T' v (m : Int) = nb at *
                have Hhbm := Lib.hid hbm; have Hhn1 := Lib.hid hn1; have Hhn2 := Lib.hid hn2; clear hbm hn1 hn2
                go_wp2_with fail
                refine Go.Canon.wp_region_tree [7, 17] (fun b => b = w5.heap.size) (.seg [0,1,2,4,5,6,7] (.alt 3 (.seg [8,9,10,11,12,14,15,16,17] (.alt 13 (.seg [18,19] .fin) .no)) .no)) mixed (by kernel_rfl) ?_
                refine Go.Canon.tr_seg ?_
                simp only [List.map_cons, List.map_nil, List.getD_cons_zero, List.getD_cons_succ]
                go_wp2_with fail
                refine Go.Canon.tr_to (Go.Canon.tr_one ?_)
                simp only [List.getD_cons_zero, List.getD_cons_succ]
                go_wp2_with fail
                refine Hhn1.out.mono ?_
                rintro e w9 ⟨rfl, hb9⟩
                have hbr : Below wr.heap.size wr w9 := (Below.refl _ wr).drew.trans hb9
                have hz9 := hbr.size
                have hcell9 : w9.cell? ⟨w5.heap.size, m, none⟩ = some (.bool nb) := (hbr.cell (p := ⟨w5.heap.size, m, none⟩) hgm).trans hcell
                have hn2 := Hhn2.out w9 (Hhtab5.out.below ((hbelm.trans (hbr.mono hzm)).mono Hhtab5.out.le) (Nat.le_refl _))
                have Hhn2 := Lib.hid hn2; clear hn2
                go_wp2_with fail
                refine Go.Canon.tr_end (fun b h9 => by subst h9; exact hbr.block _ hgm) (Go.Canon.tr_seg ?_)
                simp only [List.map_cons, List.map_nil, List.getD_cons_zero, List.getD_cons_succ]
                go_wp2_with fail
                refine Go.Canon.tr_to (Go.Canon.tr_one ?_)
                simp only [List.getD_cons_zero, List.getD_cons_succ]
                go_wp2_with fail
                refine Hhn2.out.mono ?_
                rintro e w10 ⟨rfl, hb10⟩
                have hbr2 := hbr.trans (hb10.mono hz9)
                have hbk10 := Hhbm.out.below hbr2 hgm
                have hbel10 := hbelm.trans (hbr2.mono hzm)
                have Hhbk10 := Lib.hid hbk10; clear hbk10
                go_wp2_with fail
                refine Go.Canon.tr_end (fun b h9 => by subst h9; exact hbr2.block _ hgm) (Go.Canon.tr_seg ?_)
                simp only [List.map_cons, List.map_nil, List.getD_cons_zero, List.getD_cons_succ]
                go_wp2_with fail
                refine Go.Canon.tr_to (Go.Canon.tr_fin (by rfl) (List.forall_mem_cons.2 ⟨.inl ⟨_, rfl, rfl, by rw [World.cell?_drew, hcell]; rfl⟩, List.forall_mem_cons.2 ⟨.inl ⟨_, rfl, rfl, by rw [World.cell?_drew, hcell]; rfl⟩, fun _ h => by cases h⟩⟩) ?_)
                go_wp2_with fail
                exact ⟨⟨m + 1, by omega, by simp, Hhbk10.out, hbel10⟩, by simp [intOf]; omega⟩
              · obtain rfl : m = nN := by omega
                have hfin := hb59.trans (hbelm.mono hb59.size)
                have Hhbm := Lib.hid hbm; clear hbm
                go_wp2_with fail
                go_ret
                exact ⟨rfl, hfin⟩
end Go.Proofs.Ytckkpmjkajkkmaa
