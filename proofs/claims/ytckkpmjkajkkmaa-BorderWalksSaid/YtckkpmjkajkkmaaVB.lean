/- The law RingTurns, walked. -/
import Derived.Test.YtckkpmjkajkkmaaVA
namespace Go.Mesh
/-- From corner to corner around a vertex. -/
theorem Surf.turns {N : Int} {T : List T3} (h : Surf N T) {v : Int} {i : Nat} (hi : i < (ringAt T N v).length) :
    ((i + 1 < (ringAt T N v).length ∨ innerAt T N v = true) → ∃ x, opp T (nx (ringAt T N v)[i]) = some x ∧ x < 3 * T.length ∧ (ringAt T N v)[(i + 1) % (ringAt T N v).length]? = some (nx x)) ∧
    (¬ (i + 1 < (ringAt T N v).length) → innerAt T N v = false → opp T (nx (ringAt T N v)[i]) = none) := by
  rcases h.ring_or v with ⟨h1, _, _⟩ | ⟨hl, hv, hr⟩
  · rw [h1] at hi; simp at hi
  obtain ⟨b, hrun⟩ := hr.run
  have key : ∀ (d j : Nat), aft T (ringAt T N v)[i] = some d → (ringAt T N v)[j]? = some d → ∃ x, opp T (nx (ringAt T N v)[i]) = some x ∧ x < 3 * T.length ∧ (ringAt T N v)[j]? = some (nx x) := by
    intro d j hd hj
    unfold aft at hd
    obtain ⟨x, hx, rfl⟩ := Option.map_eq_some_iff.1 hd
    exact ⟨x, hx, (h.opp_iff.1 hx).1, hj⟩
  have hlast : ¬ (i + 1 < (ringAt T N v).length) → (ringAt T N v)[(ringAt T N v).length - 1]'(by omega) = (ringAt T N v)[i] := fun h9 => by congr 1; omega
  refine ⟨fun h9 => ?_, fun h9 h8 => ?_⟩
  · by_cases h7 : i + 1 < (ringAt T N v).length
    · rw [Nat.mod_eq_of_lt h7]
      exact key _ _ (hrun.steps i h7) (List.getElem?_eq_getElem h7)
    · have h6 := h9.resolve_left h7
      have := hr.turn hl h6
      rw [hlast h7] at this
      rw [show i + 1 = (ringAt T N v).length by omega, Nat.mod_self]
      exact key _ _ this (List.getElem?_eq_getElem hl)
  · have := (hr.last hl).2 h8
    rw [hlast h9] at this
    unfold aft at this
    simpa using this
theorem Surf.turns0 {N : Int} {T : List T3} (h : Surf N T) {v : Int} (hl : 0 < (ringAt T N v).length) : (opp T (pv (ringAt T N v)[0])).isSome = innerAt T N v := by
  rcases h.ring_or v with ⟨h1, _, _⟩ | ⟨_, hv, hr⟩
  · rw [h1] at hl; simp at hl
  have := hr.head hl
  unfold bef at this
  cases hi : innerAt T N v with
  | true =>
    rw [hi] at this
    cases ho : opp T (pv (ringAt T N v)[0]) with
    | some x => rfl
    | none => rw [ho] at this; simp at this
  | false =>
    rw [hi] at this
    have := this.2 rfl
    cases ho : opp T (pv (ringAt T N v)[0]) with
    | some x => rw [ho] at this; simp at this
    | none => rfl
end Go.Mesh
namespace Go.Proofs.Ytckkpmjkajkkmaa
open Go Go.RowKit Go.Words Go.Mesh

theorem tab_next {w : World} {B : Nat} {tv : Value} {N : Int} {T : List T3} (h : TabN w B tv N T) {c : Nat} (hc : c < 3 * T.length) : Calls Try.prog 22 #[tv, .int .i64 (c : Int)] w fun e w' => e = .returned (.int .i64 (nx c : Int)) ∧ w' = w := by
  obtain ⟨g, vt, gm, vf, m, F, rfl, h8, _⟩ := h.tab (fun h9 => by rw [h9] at hc; simp at hc)
  have := next_calls h8 (c : Int)
  rw [tNext_at hc] at this
  exact this
theorem tab_prev {w : World} {B : Nat} {tv : Value} {N : Int} {T : List T3} (h : TabN w B tv N T) {c : Nat} (hc : c < 3 * T.length) : Calls Try.prog 24 #[tv, .int .i64 (c : Int)] w fun e w' => e = .returned (.int .i64 (pv c : Int)) ∧ w' = w := by
  obtain ⟨g, vt, gm, vf, m, F, rfl, h8, _⟩ := h.tab (fun h9 => by rw [h9] at hc; simp at hc)
  have := prev_calls h8 (c : Int)
  rw [tPrev_at hc] at this
  exact this
theorem tab_vertex {w : World} {B : Nat} {tv : Value} {N : Int} {T : List T3} (h : TabN w B tv N T) {c : Nat} (hc : c < 3 * T.length) : Calls Try.prog 26 #[tv, .int .i64 (c : Int)] w fun e w' => e = .returned (.int .i64 (Mesh.vt T c)) ∧ w' = w := by
  obtain ⟨g, vt, gm, vf, m, F, rfl, h8, _⟩ := h.tab (fun h9 => by rw [h9] at hc; simp at hc)
  have := vertex_calls h8 (c : Int)
  rw [tVert_at hc] at this
  exact this
theorem tab_opp {w : World} {B : Nat} {tv : Value} {N : Int} {T : List T3} (h : TabN w B tv N T) (hs : Surf N T) {c : Nat} (hc : c < 3 * T.length) : Calls Try.prog 21 #[tv, .int .i64 (c : Int)] w fun e w' => e = .returned (.int .i64 (oi (opp T c))) ∧ Below w.heap.size w w' := by
  have := opp_calls (h.tab (fun h9 => by rw [h9] at hc; simp at hc)) hs (c : Int)
  rw [tOpp_at hc] at this
  exact this

set_option maxRecDepth 20000 in
set_option maxHeartbeats 2000000 in
theorem turns_law (sv : Value) (N : Int) (T : List T3) (v : Int) (w : World) {B : Nat} (hB0 : B ≤ w.heap.size) (hT : Sl 3 RTri w B sv T) (hN : I64 N) :
    Calls Try.prog 4 #[.agg #[.int .i64 N, sv], .int .i64 v] w fun e w' => e = .returned (.bool true) ∧ Below w.heap.size w w' := by
  obtain ⟨A, cap, rfl, hcap⟩ := hT.form
  have hb1 := (Below.refl w.heap.size w).alloc (Nat.le_refl _) (.cells #[.int .i64 N, .slice A T.length cap] 24)
  have hbox := Bk.new w 24 [.int .i64 N, .slice A T.length cap]
  have hTA := hT.below keeps_tri (hb1.mono hB0)
  have hbl := hbox.lt
  have c0 := hbox.cell 0
  have c1 := hbox.cell 1
  simp only [List.getElem?_cons_zero, List.getElem?_cons_succ] at c0 c1
  generalize hw0 : w.alloc (.cells #[.int .i64 N, .slice A T.length cap] 24) = w0 at *
  have haw := awake_calls w0
  have hz0 := hb1.size
  have HhT := Lib.hid hT; have Hhbox := Lib.hid hbox; have HhTA := Lib.hid hTA; have Hhaw := Lib.hid haw; clear hT hbox hTA haw
  go_enter Try.func4, Try.ntmps4
  go_wp2_with fail
  clear hw0
  refine Hhaw.out.mono ?_
  rintro e w1 ⟨rfl, hb2⟩
  have hb3 := below_call hb1 hb2 hb1.size
  have d0 : w1.cell? ⟨w.heap.size, 0, none⟩ = some (.int .i64 N) := (hb2.cell (p := ⟨w.heap.size, 0, none⟩) hbl).trans c0
  have d1 : w1.cell? ⟨w.heap.size, 1, none⟩ = some (.slice A T.length cap) := (hb2.cell (p := ⟨w.heap.size, 1, none⟩) hbl).trans c1
  have hT1 := HhTA.out.below keeps_tri (hb2.mono (by omega))
  have hz1 := hb2.size
  have htb := table_calls hT1 (by omega) hN
  have HhT1 := Lib.hid hT1; have Hhtb := Lib.hid htb; clear hT1 htb
  go_wp2_with fail
  refine Hhtb.out.mono ?_
  intro e w2 htd
  obtain ⟨pv, B', N', T', rfl, hs, htab, hb4, hor⟩ := tabled_tab htd
  have hb5 := below_call hb3 hb4 hb3.size
  have hz2 := hb4.size
  rcases hor with ⟨rfl, rfl, rfl, -⟩ | ⟨g, rfl, rfl, rfl, hsm⟩
  · have Hhtd := Lib.hid htd; have Hhs := Lib.hid hs; have Hhtab := Lib.hid htab; clear htd hs htab
    go_wp2_with fail
    go_ret
    exact ⟨rfl, hb5⟩
  · have e0 : w2.cell? ⟨w.heap.size, 0, none⟩ = some (.int .i64 N') := (hb4.cell (p := ⟨w.heap.size, 0, none⟩) (by show w.heap.size < _; omega)).trans d0
    have e1 : w2.cell? ⟨w.heap.size, 1, none⟩ = some (.slice A T'.length cap) := (hb4.cell (p := ⟨w.heap.size, 1, none⟩) (by show w.heap.size < _; omega)).trans d1
    have hT2 := HhT1.out.below keeps_tri (hb4.mono (by omega))
    have hlen := hs.ring_len v
    have h40 := hsm.1
    have hbw2 : w.heap.size < w2.heap.size := by omega
    clear c0 c1 d0 d1 hb1 hb2 hb3 hb4 hz0 hz1 hz2 hbl
    have hli := list_calls htab hs v 200 (by omega) (by omega)
    rw [List.take_of_length_le (by omega)] at hli
    have hle := htab.le
    have Hhtd := Lib.hid htd; have Hhs := Lib.hid hs; have Hhtab := Lib.hid htab; have HhT2 := Lib.hid hT2; have Hhli := Lib.hid hli; have Hhsm := Lib.hid hsm; clear htd hs htab hT2 hli hsm
    go_wp2_with fail
    refine Hhli.out.mono ?_
    rintro e w3 ⟨⟨r, rfl, hown⟩, hb6⟩
    have hb7 := below_call hb5 hb6 hb5.size
    have hz3 := hb6.size
    have htab3 := Hhtab.out.below (hb6.mono hle) (Nat.le_refl _)
    obtain ⟨A2, cap2, rfl, hc2⟩ := own_form hown
    have hturn := fun i (hi : i < (ringAt T' N' v).length) => Hhs.out.turns hi
    have hmem := fun i (hi : i < (ringAt T' N' v).length) => ((Hhs.out.ring_mem v _).1 (List.getElem_mem hi)).1
    generalize hL : ringAt T' N' v = L at *
    have ht0 : ∀ hl : 0 < L.length, (opp T' (pv L[0])).isSome = innerAt T' N' v := by subst hL; exact fun hl => Hhs.out.turns0 hl
    generalize hI : innerAt T' N' v = I9 at *
    have Hhown := Lib.hid hown; have Hhtab3 := Lib.hid htab3; have Hhturn := Lib.hid hturn; have Hhmem := Lib.hid hmem; have HhL := Lib.hid hL; have Hht0 := Lib.hid ht0; have HhI := Lib.hid hI; clear hown htab3 hturn hmem hL ht0 hI
    go_wp2_with fail
    go_loopw [7] (fun i wr => ∃ k : Nat, k ≤ L.length ∧ i = .int .i64 k ∧ Below w3.heap.size w3 wr) (fun i _ => L.length - (intOf i).toNat)
    case atStart => exact ⟨0, by omega, rfl, Below.refl _ _⟩
    case round =>
      obtain ⟨k, hk, rfl, hbel⟩ := hrel
      have hzr := hbel.size
      have htabr := Hhtab3.out.below (hbel.mono (by omega)) (Nat.le_refl _)
      have hler := htabr.le
      have hownr := own_below Hhown.out hbel (Nat.le_refl _)
      by_cases hkl : k < L.length
      · obtain ⟨A2, rfl⟩ : ∃ g2, A2 = some ⟨g2, 0, none⟩ := by
          obtain ⟨m, hm⟩ : ∃ m, L.length = m + 1 := ⟨L.length - 1, by omega⟩
          have h9 := hownr
          rw [hm] at h9
          obtain ⟨g', c', h8⟩ := ownsRow_succ h9
          injection h8 with h8
          exact ⟨_, h8⟩
        obtain ⟨hcell, hgr, -⟩ := own_nat_at hownr rfl hkl
        have hm := Hhmem.out k hkl
        obtain ⟨ht1, ht2⟩ := Hhturn.out k hkl
        have hnx := tab_next htabr hm
        have hop := tab_opp htabr Hhs.out (nx_lt hm)
        have hin := fun wz (hz : TabN wz B' (.pointer (some g)) N' T') => inner_calls hz Hhs.out v
        rw [HhI.out] at hin
        have hcase : (k + 1 < L.length ∨ I9 = true) ∨ (¬ (k + 1 < L.length) ∧ I9 = false) := by
          cases I9 <;> simp <;> omega
        rcases hcase with hc | ⟨hc1, hc2⟩
        · obtain ⟨x, hx, hxl, hxj⟩ := ht1 hc
          have hmod : (k + 1) % L.length < L.length := Nat.mod_lt _ (by omega)
          have hnx2 := fun wz (hz : TabN wz B' (.pointer (some g)) N' T') => tab_next hz hxl
          have hxc : L[(k + 1) % L.length]'hmod = nx x := by rw [List.getElem?_eq_getElem hmod] at hxj; exact Option.some.inj hxj
          have hcj := fun (wz : World) (hz : wz.ownsRow w2.heap.size 3 1 (.slice (some ⟨A2, 0, none⟩) L.length cap2) L.length (nvals L)) => (own_nat_at hz rfl hmod)
          rw [hxc] at hcj
          obtain ⟨j, hj, hj2⟩ : ∃ j : Nat, ((k : Int) + 1) % (L.length : Int) = (j : Int) ∧ (k + 1) % L.length = j := ⟨(k + 1) % L.length, rfl, rfl⟩
          rw [hj2] at hcj
          have hjl : j < L.length := by omega
          have hji : (j : Int) < (L.length : Int) := by omega
          rw [hx] at hop
          change Calls _ _ _ _ fun e w' => e = .returned (.int .i64 (x : Int)) ∧ _ at hop
          have hx0 : (0 : Int) ≤ x := by omega
          generalize hlk : L[k] = lk at *
          clear ht1 ht2 hxj hxc hmod hj2
          have Hhownr := Lib.hid hownr; have Hhtabr := Lib.hid htabr; have Hhnx := Lib.hid hnx; have Hhop := Lib.hid hop; have Hhin := Lib.hid hin; have Hhnx2 := Lib.hid hnx2; have Hhcj := Lib.hid hcj; have Hhm := Lib.hid hm; have Hhx := Lib.hid hx; have Hhlk := Lib.hid hlk; clear hownr htabr hnx hop hin hnx2 hcj hm hx hlk
          go_wp2_with fail
          refine Hhnx.out.mono ?_
          rintro e w' ⟨rfl, rfl⟩
          go_wp2_with fail
          by_cases hk1 : k + 1 < L.length
          · clear hc
            have hk2 : (k : Int) + 1 < (L.length : Int) := by omega
            refine Hhop.out.mono ?_
            rintro e w4 ⟨rfl, hbr⟩
            go_wp2_with fail
            obtain ⟨hcl, hgl, -⟩ := Hhcj.out w4 (own_below Hhownr.out hbr (Nat.le_refl _))
            have hnz := Hhnx2.out w4.drew (Hhtabr.out.below (hbr.drew.mono hler) (Nat.le_refl _))
            have Hhnz := Lib.hid hnz; clear hnz
            refine Go.Canon.wp_region_tree [13] (fun b => b = A2) (.seg [0,1,2,3,4,6,7,8,9,10,11,12,13] (.alt 5 (.seg [14,15] .fin) .no)) mixed (by kernel_rfl) ?_
            refine Go.Canon.tr_seg ?_
            simp only [List.map_cons, List.map_nil, List.getD_cons_zero, List.getD_cons_succ]
            go_wp2_with fail
            refine Go.Canon.tr_to (Go.Canon.tr_one ?_)
            simp only [List.getD_cons_zero, List.getD_cons_succ]
            go_wp2_with fail
            refine Hhnz.out.mono ?_
            rintro e w9 ⟨rfl, rfl⟩
            go_wp2_with fail
            refine Go.Canon.tr_end (fun _ _ => rfl) (Go.Canon.tr_seg ?_)
            simp only [List.map_cons, List.map_nil, List.getD_cons_zero, List.getD_cons_succ]
            go_wp2_with fail
            refine Go.Canon.tr_to (Go.Canon.tr_fin (by rfl) (List.forall_mem_cons.2 ⟨.inl ⟨_, rfl, rfl, by rw [World.cell?_drew, hcl]; rfl⟩, fun _ h => by cases h⟩) ?_)
            go_wp2_with fail
            exact ⟨⟨k + 1, by omega, by simp, hbel.trans (hbr.mono hzr).drew⟩, by simp [intOf]; omega⟩
          · have hI9 := hc.resolve_left hk1
            clear hc
            have hk2 : (L.length : Int) ≤ (k : Int) + 1 := by omega
            subst hI9
            refine Hhop.out.mono ?_
            rintro e w4 ⟨rfl, hb8⟩
            have hin := Hhin.out w4 (Hhtabr.out.below (hb8.mono hler) (Nat.le_refl _))
            have hz8 := hb8.size
            have Hhin := Lib.hid hin; clear hin
            go_wp2_with fail
            refine Hhin.out.mono ?_
            rintro e w5 ⟨rfl, hb9⟩
            have hbr := hb8.trans (hb9.mono hz8)
            go_wp2_with fail
            obtain ⟨hcl, hgl, -⟩ := Hhcj.out w5 (own_below Hhownr.out hbr (Nat.le_refl _))
            have hnz := Hhnx2.out w5.drew (Hhtabr.out.below (hbr.drew.mono hler) (Nat.le_refl _))
            have Hhnz := Lib.hid hnz; clear hnz
            refine Go.Canon.wp_region_tree [13] (fun b => b = A2) (.seg [0,1,2,3,4,6,7,8,9,10,11,12,13] (.alt 5 (.seg [14,15] .fin) .no)) mixed (by kernel_rfl) ?_
            refine Go.Canon.tr_seg ?_
            simp only [List.map_cons, List.map_nil, List.getD_cons_zero, List.getD_cons_succ]
            go_wp2_with fail
            refine Go.Canon.tr_to (Go.Canon.tr_one ?_)
            simp only [List.getD_cons_zero, List.getD_cons_succ]
            go_wp2_with fail
            refine Hhnz.out.mono ?_
            rintro e w9 ⟨rfl, rfl⟩
            go_wp2_with fail
            refine Go.Canon.tr_end (fun _ _ => rfl) (Go.Canon.tr_seg ?_)
            simp only [List.map_cons, List.map_nil, List.getD_cons_zero, List.getD_cons_succ]
            go_wp2_with fail
            refine Go.Canon.tr_to (Go.Canon.tr_fin (by rfl) (List.forall_mem_cons.2 ⟨.inl ⟨_, rfl, rfl, by rw [World.cell?_drew, hcl]; rfl⟩, fun _ h => by cases h⟩) ?_)
            go_wp2_with fail
            exact ⟨⟨k + 1, by omega, by simp, hbel.trans (hbr.mono hzr).drew⟩, by simp [intOf]; omega⟩
        · have ho := ht2 hc1 hc2
          rw [ho] at hop
          change Calls _ _ _ _ fun e w' => e = .returned (.int .i64 (-1)) ∧ _ at hop
          have hk2 : (L.length : Int) ≤ (k : Int) + 1 := by omega
          subst hc2
          clear ht1 ht2
          generalize hlk : L[k] = lk at *
          have Hhownr := Lib.hid hownr; have Hhtabr := Lib.hid htabr; have Hhnx := Lib.hid hnx; have Hhop := Lib.hid hop; have Hhin := Lib.hid hin; have Hhm := Lib.hid hm; have Hho := Lib.hid ho; have Hhlk := Lib.hid hlk; clear hownr htabr hnx hop hin hm ho hlk
          go_wp2_with fail
          refine Hhnx.out.mono ?_
          rintro e w' ⟨rfl, rfl⟩
          go_wp2_with fail
          refine Hhop.out.mono ?_
          rintro e w4 ⟨rfl, hb8⟩
          have hin := Hhin.out w4 (Hhtabr.out.below (hb8.mono hler) (Nat.le_refl _))
          have hz8 := hb8.size
          have Hhin := Lib.hid hin; clear hin
          go_wp2_with fail
          refine Hhin.out.mono ?_
          rintro e w5 ⟨rfl, hb9⟩
          have hbr := hb8.trans (hb9.mono hz8)
          go_wp2_with fail
          exact ⟨⟨k + 1, by omega, by simp, hbel.trans (hbr.mono hzr)⟩, by simp [intOf]; omega⟩
      · obtain rfl : k = L.length := by omega
        have Hhownr := Lib.hid hownr; clear hownr
        have hb10 := below_call hb7 hbel hb7.size
        by_cases hl0 : 0 < L.length
        · have hl0' : ¬ (L.length : Int) = 0 := by omega
          obtain ⟨A2, rfl⟩ : ∃ g2, A2 = some ⟨g2, 0, none⟩ := by
            obtain ⟨m, hm⟩ : ∃ m, L.length = m + 1 := ⟨L.length - 1, by omega⟩
            have h9 := Hhownr.out
            rw [hm] at h9
            obtain ⟨g', c', h8⟩ := ownsRow_succ h9
            injection h8 with h8
            exact ⟨_, h8⟩
          obtain ⟨hcell, hgr, -⟩ := own_nat_at Hhownr.out rfl hl0
          have hm := Hhmem.out 0 hl0
          have hin := inner_calls (htabr.below (Below.refl wr.heap.size wr).drew hler) Hhs.out v
          rw [HhI.out] at hin
          have hnx := fun wz (hz : TabN wz B' (.pointer (some g)) N' T') => tab_prev hz hm
          have hop := fun wz (hz : TabN wz B' (.pointer (some g)) N' T') => tab_opp hz Hhs.out (pv_lt hm)
          have ht9 := Hht0.out hl0
          generalize hlk : L[0] = lk at *
          have Hhtabr := Lib.hid htabr; have Hhin := Lib.hid hin; have Hhnx := Lib.hid hnx; have Hhop := Lib.hid hop; have Hhm := Lib.hid hm; have Hhlk := Lib.hid hlk; have Hht9 := Lib.hid ht9; clear htabr hin hnx hop hm hlk ht9
          go_wp2_with fail
          refine Go.Canon.wp_region_tree [11] (fun b => b = A2) (.seg [0,1,2,3,4,5,7,8,9,10,11] (.alt 6 (.alt 12 (.alt 13 (.seg [14,15,16,17] .fin) .no) .no) .no)) mixed (by kernel_rfl) ?_
          refine Go.Canon.tr_seg ?_
          simp only [List.map_cons, List.map_nil, List.getD_cons_zero, List.getD_cons_succ]
          go_wp2_with fail
          refine Go.Canon.tr_to (Go.Canon.tr_one ?_)
          simp only [List.getD_cons_zero, List.getD_cons_succ]
          go_wp2_with fail
          refine Hhin.out.mono ?_
          rintro e w5 ⟨rfl, hb11⟩
          have hbr : Below wr.heap.size wr w5 := (Below.refl _ wr).drew.trans hb11
          have hz5 := hbr.size
          have htab5 := Hhtabr.out.below (hbr.mono hler) (Nat.le_refl _)
          have hnx := Hhnx.out w5 htab5
          have hop := Hhop.out w5 htab5
          have Hhnx := Lib.hid hnx; have Hhop := Lib.hid hop; clear hnx hop
          go_wp2_with fail
          refine Go.Canon.tr_end (fun b h9 => by subst h9; exact hbr.block _ hgr) (Go.Canon.tr_one ?_)
          simp only [List.getD_cons_zero, List.getD_cons_succ]
          go_wp2_with fail
          refine Hhnx.out.mono ?_
          rintro e w' ⟨rfl, rfl⟩
          go_wp2_with fail
          refine Go.Canon.tr_end (fun b h9 => by subst h9; exact hbr.block _ hgr) (Go.Canon.tr_one ?_)
          simp only [List.getD_cons_zero, List.getD_cons_succ]
          go_wp2_with fail
          refine Hhop.out.mono ?_
          rintro e w6 ⟨rfl, hb12⟩
          have hbr6 := hbr.trans (hb12.mono hz5)
          go_wp2_with fail
          refine Go.Canon.tr_end (fun b h9 => by subst h9; exact hbr6.block _ hgr) (Go.Canon.tr_seg ?_)
          simp only [List.map_cons, List.map_nil, List.getD_cons_zero, List.getD_cons_succ]
          go_wp2_with fail
          refine Go.Canon.tr_to (Go.Canon.tr_fin (by rfl) (List.forall_mem_cons.2 ⟨.inl ⟨_, rfl, rfl, by rw [World.cell?_drew, hcell]; rfl⟩, fun _ h => by cases h⟩) ?_)
          go_wp2_with fail
          go_ret
          exact ⟨ret_bool (by rw [oi_nonneg, Hht9.out]; simp), below_call hb10 hbr6 hb10.size⟩
        · have hl0 : (L.length : Int) = 0 := by omega
          have Hhtabr := Lib.hid htabr; clear htabr
          go_wp2_with fail
          refine Go.Canon.wp_region_tree [11] (fun _ => True) (.seg [0,1,2,3,4,5,7,8,9,10,11] (.alt 6 (.alt 12 (.alt 13 (.seg [14,15,16,17] .fin) .no) .no) .no)) mixed (by kernel_rfl) ?_
          refine Go.Canon.tr_seg ?_
          simp only [List.map_cons, List.map_nil, List.getD_cons_zero, List.getD_cons_succ]
          go_wp2_with fail
          refine Go.Canon.tr_to (Go.Canon.tr_one ?_)
          simp only [List.getD_cons_zero, List.getD_cons_succ]
          go_wp2_with fail
          refine Go.Canon.tr_end (fun _ _ => rfl) (Go.Canon.tr_one ?_)
          simp only [List.getD_cons_zero, List.getD_cons_succ]
          go_wp2_with fail
          refine Go.Canon.tr_end (fun _ _ => rfl) (Go.Canon.tr_one ?_)
          simp only [List.getD_cons_zero, List.getD_cons_succ]
          go_wp2_with fail
          refine Go.Canon.tr_end (fun _ _ => rfl) (Go.Canon.tr_seg ?_)
          simp only [List.map_cons, List.map_nil, List.getD_cons_zero, List.getD_cons_succ]
          go_wp2_with fail
          refine Go.Canon.tr_to (Go.Canon.tr_fin (by rfl) (List.forall_mem_cons.2 ⟨.inr rfl, fun _ h => by cases h⟩) ?_)
          go_wp2_with fail
          go_ret
          exact ⟨rfl, hb10.drew⟩
end Go.Proofs.Ytckkpmjkajkkmaa
