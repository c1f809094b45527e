/- The law BayConnected, walked. -/
import Derived.Test.YtpmmjjbllmeneaaDK
import Derived.Test.YtpmmjjbllmeneaaDM
namespace Go.Proofs.Ytpmmjjbllmeneaa
open Go Go.RowKit Go.Words Go.Mesh

theorem bvals_at {l : List Bool} {i : Nat} {x : Bool} (h : l[i]? = some x) : (bvals l)[i]? = some (.bool x) := by unfold bvals; rw [List.getElem?_map, h]; rfl
theorem own_setcell {w : World} {g base size n : Nat} {e : TypeId} {v u : Value} {xs : List Value} (h : w.ownsRow base e size v n xs) (hb : g < base) (i : Nat) : (w.setCell ⟨g, i, none⟩ u).ownsRow base e size v n xs :=
  h.kept (row := some g) ⟨rfl, rfl, rfl, (KeepsWalks.setCell w _ _).size, fun b _ hbb => Below.heap_setCell _ _ _ b (fun e => hbb (by rw [e]))⟩ (.inr fun e => by have := (h.lt _ e).1; omega)
set_option maxRecDepth 100000 in
set_option maxHeartbeats 4000000 in
theorem connected_law (sv : Value) (N : Int) (T : List T3) (lv : Value) (l : List Int) (w : World) {B : Nat} (hB0 : B ≤ w.heap.size) (hT : Sl 3 RTri w B sv T) (hN : I64 N) (hl : Sl 1 RInt w B lv l) :
    Calls Try.prog 5 #[.agg #[.int .i64 N, sv], lv] w fun e w' => e = .returned (.bool true) ∧ Below w.heap.size w w' := by
  obtain ⟨A9, cap9, rfl, hcap9⟩ := hl.form
  have Hhl := Lib.hid hl; clear hl
  obtain ⟨A, cap, rfl, hcap⟩ := hT.form
  have hb1 := (Below.refl w.heap.size w).alloc (Nat.le_refl _) (.cells #[.int .i64 N, .slice A T.length cap] 24)
  have hbox := Bk.new w 24 [.int .i64 N, .slice A T.length cap]
  have hTA := hT.below keeps_tri (hb1.mono hB0)
  have hbl := hbox.lt
  have c0 := hbox.cell 0
  have c1 := hbox.cell 1
  simp only [List.getElem?_cons_zero, List.getElem?_cons_succ] at c0 c1
  generalize hw0 : w.alloc (.cells #[.int .i64 N, .slice A T.length cap] 24) = w0 at *
  have haw := awake39_calls w0
  have hz0 := hb1.size
  have HhT := Lib.hid hT; have Hhbox := Lib.hid hbox; have HhTA := Lib.hid hTA; have Hhaw := Lib.hid haw; clear hT hbox hTA haw
  go_enter Try.func5, Try.ntmps5
  go_wp2_with fail
  clear hw0
  refine Hhaw.out.mono ?_
  rintro e w1 ⟨rfl, hb2⟩
  have hb3 := below_call hb1 hb2 hb1.size
  have d0 : w1.cell? ⟨w.heap.size, 0, none⟩ = some (.int .i64 N) := (hb2.cell (p := ⟨w.heap.size, 0, none⟩) hbl).trans c0
  have d1 : w1.cell? ⟨w.heap.size, 1, none⟩ = some (.slice A T.length cap) := (hb2.cell (p := ⟨w.heap.size, 1, none⟩) hbl).trans c1
  have hT1 := HhTA.out.below keeps_tri (hb2.mono (by omega))
  have hz1 := hb2.size
  have htb := table39_calls hT1 (by omega) hN
  have HhT1 := Lib.hid hT1; have Hhtb := Lib.hid htb; clear hT1 htb
  go_wp2_with fail
  refine Hhtb.out.mono ?_
  rintro e w2 ⟨⟨pv, B', rfl, hor⟩, hb4⟩
  have hb5 := below_call hb3 hb4 hb3.size
  have hz2 := hb4.size
  have e0 : w2.cell? ⟨w.heap.size, 0, none⟩ = some (.int .i64 N) := (hb4.cell (p := ⟨w.heap.size, 0, none⟩) (by show w.heap.size < _; omega)).trans d0
  have e1 : w2.cell? ⟨w.heap.size, 1, none⟩ = some (.slice A T.length cap) := (hb4.cell (p := ⟨w.heap.size, 1, none⟩) (by show w.heap.size < _; omega)).trans d1
  have hT2 := HhT1.out.below keeps_tri (hb4.mono (by omega))
  have hbw2 : w.heap.size < w2.heap.size := by omega
  have hB2 : B ≤ w2.heap.size := by omega
  have hw12 : Below w.heap.size w w1 := hb3
  clear c0 c1 d0 d1
  rcases hor with ⟨hsm, hs, htab⟩ | ⟨hno, rfl⟩
  case inr =>
    have HhT2 := Lib.hid hT2; have Hhno := Lib.hid hno; clear hT2 hno
    go_wp2_with fail
    go_ret
    exact ⟨rfl, hb5⟩
  obtain ⟨g, rfl⟩ : ∃ g, pv = .pointer (some ⟨g, 0, none⟩) := by
    obtain ⟨g, _, _, _, _, _, rfl, _⟩ := htab
    exact ⟨_, rfl⟩
  have hle := htab.le
  obtain ⟨h30, hN0, h60⟩ := hsm
  by_cases h40 : 40 < l.length
  case pos =>
    have h40i : 40 < (l.length : Int) := by omega
    clear h40
    have HhT2 := Lib.hid hT2; have Hhs := Lib.hid hs; have Hhtab := Lib.hid htab; clear hT2 hs htab
    go_wp2_with fail
    go_ret
    exact ⟨rfl, hb5⟩
  case neg =>
    have h40i : (l.length : Int) ≤ 40 := by omega
    have hl2 := Hhl.out.below keeps_int (hb5.mono hB0)
    have hgr := grow_calls htab hs hB2 hl2 (by omega)
    have HhT2 := Lib.hid hT2; have Hhs := Lib.hid hs; have Hhtab := Lib.hid htab; have Hhl2 := Lib.hid hl2; have Hhgr := Lib.hid hgr; clear hT2 hs htab hl2 hgr
    go_wp2_with fail
    refine Hhgr.out.mono ?_
    rintro e w3 ⟨⟨r3, rfl, hr3⟩, hb6⟩
    have hz3 := hb6.size
    have hb7 := below_call hb5 hb6 hb5.size
    obtain ⟨A3, cap3, rfl, hc3⟩ := hr3.form
    by_cases hE1 : growE T l = 0
    case neg =>
      have hE1b : (growE T l != 0) = true := bne_iff_ne.2 hE1
      have hgl : (growL T l).length = 0 := by unfold growL; rw [if_neg hE1]; rfl
      rw [hgl]
      generalize growE T l = E1 at *
      have Hhr3 := Lib.hid hr3; clear hr3
      go_wp2_with fail
      go_ret
      exact ⟨rfl, hb7⟩
    case pos =>
      rw [hE1]
      have hL1 := growL_len hE1
      obtain ⟨hr1, hn1, hm1⟩ := grow_ok hE1
      have hg1 : growL T l = nearL T (l.map Int.toNat) := by unfold growL; rw [if_pos hE1]
      have hS1 : ∀ s ∈ l.map Int.toNat, s < T.length := fun s hs => by
        obtain ⟨y, hy, rfl⟩ := List.mem_map.1 hs
        have := hr1 y hy
        omega
      have hnd := nodup_map_toNat (fun s hs => (hr1 s hs).1) hn1
      have hmc := map_toNat_cast fun s hs => (hr1 s hs).1
      rw [hL1] at hc3 ⊢
      rw [hg1] at hr3
      clear hL1 hg1
      obtain ⟨S, hS⟩ : ∃ S, S = l.map Int.toNat := ⟨_, rfl⟩
      rw [← hS] at hm1 hS1 hnd hmc hr3
      have hSl : S.length = l.length := by rw [hS, List.length_map]
      have hnl := nearL_len T S
      have hz := seen_zero hm1
      have hopp := fun wz (c : Nat) (h9 : Below w2.heap.size w2 wz) (hc : c < 3 * T.length) => opp_calls (Hhtab.out.below (h9.mono hle) (Nat.le_refl _)) Hhs.out (c : Int)
      have hopp := fun wz (c : Nat) (h9 : Below w2.heap.size w2 wz) (hc : c < 3 * T.length) => (tOpp_at hc) ▸ hopp wz c h9 hc
      have hlS : Sl 1 RInt w3 w3.heap.size (.slice A9 l.length cap9) (S.map fun n : Nat => (n : Int)) := by rw [hmc]; exact Hhl2.out.keep keeps_int (hb6.mono hB2) (by omega)
      have hm1' := run_make_rep (P := Try.prog) 39 Try.underlying39 info_bool rfl T.length (by omega) (by omega)
      have hbk := Bk.new w3 4 (bvals (List.replicate T.length false))
      have hrep : (bvals (List.replicate T.length false)).toArray = Array.replicate T.length (.bool false) := by unfold bvals; rw [List.map_replicate, List.toArray_replicate]
      rw [hrep] at hbk
      have hbm := (Below.refl w3.heap.size w3).alloc (Nat.le_refl _) (.cells (Array.replicate T.length (Value.bool false)) 4)
      have q1 : w3.cell? ⟨w.heap.size, 1, none⟩ = some (.slice A T.length cap) := (hb6.cell (p := ⟨w.heap.size, 1, none⟩) hbw2).trans e1
      have Hhr3 := Lib.hid hr3; clear hr3; have Hhr1 := Lib.hid hr1; clear hr1; have Hhn1 := Lib.hid hn1; clear hn1; have Hhm1 := Lib.hid hm1; clear hm1; have HhS1 := Lib.hid hS1; clear hS1; have Hhnd := Lib.hid hnd; clear hnd; have Hhmc := Lib.hid hmc; clear hmc; have HhS := Lib.hid hS; clear hS; have Hhz := Lib.hid hz; clear hz; have Hhopp := Lib.hid hopp; clear hopp; have HhlS := Lib.hid hlS; clear hlS; have Hhbk := Lib.hid hbk; clear hbk; have Hhrep := Lib.hid hrep; clear hrep; have Hhnl := Lib.hid hnl; clear hnl
      go_wp2_with fail
      clear hm1'
      generalize hwm : w3.alloc (.cells (Array.replicate T.length (Value.bool false)) 4) = wm at *
      clear hwm
      have hbkl := Hhbk.out.lt
      go_loopw [9] (fun iv wr => ∃ (i : Nat) (seen : List Bool), i ≤ l.length ∧ iv = .int .i64 (i : Int) ∧ Bk wr w3.heap.size 4 (bvals seen) ∧ Seen (nearL T S) seen i ∧ Below w3.heap.size w3 wr) (fun iv _ => l.length - (intOf iv).toNat)
      case atStart => exact ⟨0, _, by omega, rfl, Hhbk.out, Hhz.out, hbm⟩
      case round =>
        obtain ⟨i, seen, hi, rfl, hsk, hseen, hbel⟩ := hrel
        by_cases hil : i < l.length
        · obtain ⟨b1, o1, rfl, hb1l, c1⟩ := (HhlS.out.below keeps_int hbel).int_at (k := i) (by rw [List.length_map, hSl]; exact hil)
          rw [List.getElem_map] at c1
          have hSi : S[i]? = some S[i] := List.getElem?_eq_getElem (by omega)
          have hsl := HhS1.out _ (List.mem_of_getElem? hSi)
          have hns := Hhs.out.near_seed HhS1.out Hhnd.out hSi
          have hst := hseen.start hSi hns
          generalize S[i] = s at *
          have hrw := Hhr3.out.below keeps_int hbel
          obtain ⟨p1, p2⟩ := List.getElem?_eq_some_iff.1 hns
          obtain ⟨b2, o2, rfl, hb2l, c2⟩ := hrw.int_at p1
          rw [p2] at c2
          have hsz := hsk.lt
          have hzr := hbel.size
          have hb1w : b1 < wr.heap.size := by omega
          have hb2w : b2 < wr.heap.size := by omega
          have hseenl : s < seen.length := by have := hseen.1; rw [Hhnl.out] at this; omega
          obtain ⟨q, hq⟩ : ∃ q, seen[s]? = some q := ⟨_, List.getElem?_eq_getElem hseenl⟩
          have cs := (hsk.cell s).trans (bvals_at hq)
          have fs := hsk.frozen s
          have hii : (i : Int) < (l.length : Int) := by omega
          have hsi : (s : Int) < (T.length : Int) := by omega
          obtain ⟨gw, hgw⟩ : ∃ gw, gw = wr.heap.size := ⟨_, rfl⟩
          have hsq : (wr.setCell ⟨w3.heap.size, s, none⟩ (.bool true)).heap.size = wr.heap.size := by simp
          have hone2 := own_one (w := wr.setCell ⟨w3.heap.size, s, none⟩ (.bool true)) (base := wr.heap.size) (e := 3) (.int .i64 (s : Int)) (by rw [hsq]; exact Nat.le_refl _)
          rw [hsq] at hone2
          have hsk2 := ((hsk.set s (.bool true)).alloc (.cells #[.int .i64 (s : Int)] 3))
          rw [bvals_set] at hsk2
          have hbel2 := (hbel.setCell (p := ⟨w3.heap.size, s, none⟩) (Nat.le_refl _) (.bool true)).alloc (by rw [hsq]; exact hzr) (.cells #[.int .i64 (s : Int)] 3)
          have hz2 : wr.heap.size ≤ ((wr.setCell ⟨w3.heap.size, s, none⟩ (.bool true)).alloc (.cells #[.int .i64 (s : Int)] 3)).heap.size := by simp
          clear hsq
          have Hhsk := Lib.hid hsk; clear hsk; have Hhseen := Lib.hid hseen; clear hseen; have HhSi := Lib.hid hSi; clear hSi; have Hhns := Lib.hid hns; clear hns; have Hhst := Lib.hid hst; clear hst; have Hhrw := Lib.hid hrw; clear hrw; have Hp2 := Lib.hid p2; clear p2; have Hhq := Lib.hid hq; clear hq; have Hhgw := Lib.hid hgw; clear hgw; have Hhsk2 := Lib.hid hsk2; clear hsk2; have Hhone2 := Lib.hid hone2; clear hone2; have Hhbel2 := Lib.hid hbel2; clear hbel2
          go_wp2_with fail
          go_loopw [10, 11] (fun wv kv wz => ∃ (k : Nat) (W : List Nat) (seen : List Bool), k ≤ W.length ∧ kv = .int .i64 (k : Int) ∧ wz.ownsRow wr.heap.size 3 1 wv W.length (nvals W) ∧ Bk wz w3.heap.size 4 (bvals seen) ∧ Cq T S seen W i k 0 ∧ Below w3.heap.size w3 wz ∧ wr.heap.size ≤ wz.heap.size) (fun _ kv _ => T.length + 1 - (intOf kv).toNat)
          case atStart => exact ⟨0, [s], _, by omega, rfl, Hhone2.out, Hhsk2.out, Hhst.out, Hhbel2.out, hz2⟩
          case round =>
            clear Hhsk Hhseen Hhsk2 Hhone2 Hhbel2 Hhq Hhst cs fs hseenl hz2
            obtain ⟨k, W, seen, hk, rfl, hown, hsk, hcq, hbel4, hz4⟩ := hrel
            obtain ⟨w4, hw4⟩ : ∃ w4, w4 = wr := ⟨_, rfl⟩
            subst hw4
            obtain ⟨A4, cap4, rfl, hc4⟩ := own_form hown
            have hWl := hcq.len_le
            by_cases hkW : k < W.length
            · have hWk : W[k]? = some W[k] := List.getElem?_eq_getElem hkW
              generalize W[k] = x at *
              have Hhown := Lib.hid hown; clear hown; have Hhsk := Lib.hid hsk; clear hsk; have Hhcq := Lib.hid hcq; clear hcq
              go_wp2_with fail
              go_loopw [10, 12] (fun wv jv wz => ∃ (j : Nat) (W : List Nat) (seen : List Bool), j ≤ 3 ∧ jv = .int .i64 (j : Int) ∧ W[k]? = some x ∧ wz.ownsRow gw 3 1 wv W.length (nvals W) ∧ Bk wz w3.heap.size 4 (bvals seen) ∧ Cq T S seen W i k j ∧ Below w3.heap.size w3 wz ∧ gw ≤ wz.heap.size) (fun _ jv _ => 3 - (intOf jv).toNat)
              case atStart => exact ⟨0, _, _, by omega, rfl, hWk, by rw [Hhgw.out]; exact Hhown.out, Hhsk.out, Hhcq.out, hbel4, by rw [Hhgw.out]; exact hz4⟩
              case round =>
                clear Hhown Hhsk Hhcq hc4 hkW hk hWl hz4 hbel4
                obtain ⟨j, W, seen, hj, rfl, hWk, hown, hsk, hcq, hbel5, hz5⟩ := hrel
                obtain ⟨w5, hw5⟩ : ∃ w5, w5 = wr := ⟨_, rfl⟩
                subst hw5
                obtain ⟨A5, cap5, rfl, hc5⟩ := own_form hown
                have hWl := hcq.len_le
                obtain ⟨hkl, hWx⟩ := List.getElem?_eq_some_iff.1 hWk
                by_cases hj3 : j < 3
                · obtain ⟨gW, rfl⟩ := own_addrD hown (by omega)
                  obtain ⟨cx, -, -⟩ := own_nat_at hown rfl hkl
                  rw [hWx] at cx
                  have hxl := hcq.lt x (List.mem_of_getElem? hWk)
                  have hki : (k : Int) < (W.length : Int) := by omega
                  have hop := Hhopp.out w5 (3 * x + j) (hb6.trans (hbel5.mono hz3)) (by omega)
                  rw [show ((3 * x + j : Nat) : Int) = 3 * (x : Int) + (j : Int) by omega] at hop
                  cases hnb : opp T (3 * x + j) with
                  | none =>
                    rw [hnb] at hop
                    change Calls _ _ _ _ fun e w' => e = .returned (.int .i64 (-1)) ∧ _ at hop
                    have hq2 := hcq.skip fun z y hz hn => by
                      rw [hWk] at hz
                      obtain rfl := Option.some.inj hz
                      unfold nb at hn
                      rw [hnb] at hn
                      cases hn
                    have Hhown := Lib.hid hown; clear hown; have Hhsk := Lib.hid hsk; clear hsk; have Hhcq := Lib.hid hcq; clear hcq; have Hhop := Lib.hid hop; clear hop; have Hhnb := Lib.hid hnb; clear hnb; have Hhq2 := Lib.hid hq2; clear hq2; have HhWk := Lib.hid hWk; clear hWk; have HhWx := Lib.hid hWx; clear hWx
                    go_wp2_with fail
                    refine Hhop.out.mono ?_
                    rintro e w6 ⟨rfl, hb8⟩
                    have hbel6 := hbel5.trans (hb8.mono hbel5.size)
                    have hz6 := hb8.size
                    have hown6 := own_below Hhown.out hb8 (Nat.le_refl _)
                    have hsk6 := Hhsk.out.below hb8 Hhsk.out.lt
                    have Hhown6 := Lib.hid hown6; clear hown6; have Hhsk6 := Lib.hid hsk6; clear hsk6
                    go_wp2_with fail
                    exact ⟨⟨j + 1, _, _, by omega, by simp, HhWk.out, Hhown6.out, Hhsk6.out, Hhq2.out, hbel6, by omega⟩, by simp [intOf]; omega⟩
                  | some d =>
                    rw [hnb] at hop
                    change Calls _ _ _ _ fun e w' => e = .returned (.int .i64 (d : Int)) ∧ _ at hop
                    obtain ⟨y, hy1, hy2⟩ : ∃ y : Nat, (d : Int) / 3 = (y : Int) ∧ d / 3 = y := ⟨d / 3, by omega, rfl⟩
                    have hnb2 : nb T x j = some y := by unfold nb; rw [hnb, ← hy2]; rfl
                    have hyl := (Hhs.out.nb_rng hj3 hnb2).2
                    obtain ⟨a, ha⟩ := near_all.1 Hhm1.out y hyl
                    have haM : (nearL T S)[y]? = some (a : Int) := by rw [nearL_at hyl, ha]; rfl
                    have hsn := hcq.sn y a haM
                    have hyi : (y : Int) < (T.length : Int) := by omega
                    obtain ⟨p1, p2⟩ := List.getElem?_eq_some_iff.1 haM
                    obtain ⟨_, _, e9, hb9, cy⟩ := (Hhr3.out.below keeps_int hbel5).int_at p1
                    injection e9 with e9
                    injection e9 with e9 e8 _
                    subst e9; subst e8
                    rw [p2] at cy
                    have cs := (hsk.cell y).trans (bvals_at hsn)
                    have fs := hsk.frozen y
                    have hskl := hsk.lt
                    have hb5w : b2 < w5.heap.size := by have := hbel5.size; omega
                    have Hhown := Lib.hid hown; clear hown; have Hhsk := Lib.hid hsk; clear hsk; have Hhop := Lib.hid hop; clear hop; have Hhnb := Lib.hid hnb; clear hnb; have HhWx := Lib.hid hWx; clear hWx; have Hha := Lib.hid ha; clear ha; have HhaM := Lib.hid haM; clear haM; have Hp2 := Lib.hid p2; clear p2; have Hhy2 := Lib.hid hy2; clear hy2
                    by_cases hai : a = i
                    case neg =>
                      have hq2 := hcq.skip fun z u hz hn hu => by
                        rw [hWk] at hz
                        obtain rfl := Option.some.inj hz
                        rw [hnb2] at hn
                        obtain rfl := Option.some.inj hn
                        rw [HhaM.out] at hu
                        have := Option.some.inj hu
                        omega
                      have haib : ((a : Int) == (i : Int)) = false := by rw [beq_eq_false_iff_ne]; omega
                      have Hhcq := Lib.hid hcq; clear hcq; have Hhnb2 := Lib.hid hnb2; clear hnb2; have Hhsn := Lib.hid hsn; clear hsn; have Hhq2 := Lib.hid hq2; clear hq2; have HhWk := Lib.hid hWk; clear hWk
                      go_wp2_with fail
                      refine Hhop.out.mono ?_
                      rintro e w6 ⟨rfl, hb8⟩
                      have hbel6 := hbel5.trans (hb8.mono hbel5.size)
                      have hz6 := hb8.size
                      have hown6 := own_below Hhown.out hb8 (Nat.le_refl _)
                      have hsk6 := Hhsk.out.below hb8 hskl
                      have cy6 := (hb8.cell (p := ⟨b2, o2 + y, none⟩) hb5w).trans cy
                      have Hhown6 := Lib.hid hown6; clear hown6; have Hhsk6 := Lib.hid hsk6; clear hsk6
                      go_wp2_with fail
                      exact ⟨⟨j + 1, _, _, by omega, by simp, HhWk.out, Hhown6.out, Hhsk6.out, Hhq2.out, hbel6, by omega⟩, by simp [intOf]; omega⟩
                    case pos =>
                      have haM := HhaM.out
                      rw [hai] at haM cy cs hsn
                      by_cases hyW : y ∈ W
                      · have hq2 := hcq.skip fun z u hz hn hu => by
                          rw [hWk] at hz
                          obtain rfl := Option.some.inj hz
                          rw [hnb2] at hn
                          obtain rfl := Option.some.inj hn
                          exact hyW
                        rw [show (decide ((i : Int) < (i : Int)) || decide (y ∈ W)) = true by simp [hyW]] at cs
                        have Hhcq := Lib.hid hcq; clear hcq; have Hhnb2 := Lib.hid hnb2; clear hnb2; have Hhsn := Lib.hid hsn; clear hsn; have Hhq2 := Lib.hid hq2; clear hq2; have HhWk := Lib.hid hWk; clear hWk; have HhaM := Lib.hid haM; clear haM; have Hhai := Lib.hid hai; clear hai; have HhyW := Lib.hid hyW; clear hyW
                        go_wp2_with fail
                        refine Hhop.out.mono ?_
                        rintro e w6 ⟨rfl, hb8⟩
                        have hbel6 := hbel5.trans (hb8.mono hbel5.size)
                        have hz6 := hb8.size
                        have hown6 := own_below Hhown.out hb8 (Nat.le_refl _)
                        have hsk6 := Hhsk.out.below hb8 hskl
                        have cy6 := (hb8.cell (p := ⟨b2, o2 + y, none⟩) hb5w).trans cy
                        have cs6 := (hb8.cell (p := ⟨w3.heap.size, y, none⟩) hskl).trans cs
                        have Hhown6 := Lib.hid hown6; clear hown6; have Hhsk6 := Lib.hid hsk6; clear hsk6
                        go_wp2_with fail
                        exact ⟨⟨j + 1, _, _, by omega, by simp, HhWk.out, Hhown6.out, Hhsk6.out, Hhq2.out, hbel6, by omega⟩, by simp [intOf]; omega⟩
                      · have hq2 := hcq.push hWk hnb2 haM hyW
                        have hWk2 : (W ++ [y])[k]? = some x := by rw [List.getElem?_append_left hkl]; exact hWk
                        rw [show (decide ((i : Int) < (i : Int)) || decide (y ∈ W)) = false by simp [hyW]] at cs
                        have hgw3 : w3.heap.size < gw := by rw [Hhgw.out]; exact hsz
                        have Hhcq := Lib.hid hcq; clear hcq; have Hhnb2 := Lib.hid hnb2; clear hnb2; have Hhsn := Lib.hid hsn; clear hsn; have Hhq2 := Lib.hid hq2; clear hq2; have HhWk := Lib.hid hWk; clear hWk; have HhaM := Lib.hid haM; clear haM; have Hhai := Lib.hid hai; clear hai; have HhyW := Lib.hid hyW; clear hyW; have HhWk2 := Lib.hid hWk2; clear hWk2
                        go_wp2_with fail
                        refine Hhop.out.mono ?_
                        rintro e w6 ⟨rfl, hb8⟩
                        have hbel6 := hbel5.trans (hb8.mono hbel5.size)
                        have hz6 := hb8.size
                        have hown6 := own_below Hhown.out hb8 (Nat.le_refl _)
                        have hsk6 := Hhsk.out.below hb8 hskl
                        have cy6 := (hb8.cell (p := ⟨b2, o2 + y, none⟩) hb5w).trans cy
                        have cs6 := (hb8.cell (p := ⟨w3.heap.size, y, none⟩) hskl).trans cs
                        have fs6 := hsk6.frozen y
                        have hown7 := own_setcell (u := .bool true) hown6 hgw3 y
                        have hsk7 := hsk6.set y (.bool true)
                        rw [bvals_set] at hsk7
                        have hbel7 := hbel6.setCell (p := ⟨w3.heap.size, y, none⟩) (Nat.le_refl _) (.bool true)
                        have hz7 : w6.heap.size ≤ (w6.setCell ⟨w3.heap.size, y, none⟩ (.bool true)).heap.size := (KeepsWalks.setCell _ _ _).size
                        have hnv : nvals W ++ [.int .i64 (y : Int)] = nvals (W ++ [y]) := by unfold nvals; rw [List.map_append]; rfl
                        have hnl9 : W.length + 1 = (W ++ [y]).length := by simp
                        generalize hw7 : w6.setCell ⟨w3.heap.size, y, none⟩ (.bool true) = w7 at *
                        have hsk7l := hsk7.lt
                        have Hhown6 := Lib.hid hown6; clear hown6; have Hhsk6 := Lib.hid hsk6; clear hsk6; have Hhown7 := Lib.hid hown7; clear hown7; have Hhsk7 := Lib.hid hsk7; clear hsk7; have Hhnv := Lib.hid hnv; clear hnv; have Hhnl9 := Lib.hid hnl9; clear hnl9
                        go_wp2_with (first
                          | (at_builtin; refine append_block _ rfl (.tmp 121) (.tmp 124) 28 rfl gw info_int Try.underlying28 rfl (by decide) _ W.length (nvals W) rfl (Hhown7.out.alloc _) w7.heap.size [.int .i64 (y : Int)] rfl (Bk.new _ _ _) rfl (by simp [Value.oneCell']) (by omega) (by omega) (by simp; omega) ?_; intro v1 w8 hown8 hb9' _ _; have Hhown8 := Lib.hid hown8; clear hown8))
                        have hz8 := hb9'.size
                        have hbel8 := (hbel7.alloc (by omega) (.cells #[.int .i64 (y : Int)] 3)).trans (hb9'.mono (by omega))
                        have hsk8 : Bk w8 w3.heap.size 4 (bvals (seen.set y true)) := (hb9'.block _ hgw3).trans (Hhsk7.out.alloc _)
                        have hown9 : w8.ownsRow gw 3 1 v1 (W ++ [y]).length (nvals (W ++ [y])) := by
                          rw [← Hhnl9.out, ← Hhnv.out]; exact Hhown8.out
                        refine ⟨⟨j + 1, _, _, by omega, by simp, HhWk2.out, hown9, hsk8, Hhq2.out, hbel8, ?_⟩, by simp [intOf]; omega⟩
                        simp only [World.size_alloc] at hz8
                        omega
                · obtain rfl : j = 3 := by omega
                  have hq2 := hcq.next
                  have Hhown := Lib.hid hown; clear hown; have Hhsk := Lib.hid hsk; clear hsk; have Hhcq := Lib.hid hcq; clear hcq; have Hhq2 := Lib.hid hq2; clear hq2; have HhWk := Lib.hid hWk; clear hWk; have HhWx := Lib.hid hWx; clear hWx
                  go_wp2_with fail
                  exact ⟨⟨k + 1, _, _, by omega, by simp, by rw [← Hhgw.out]; exact Hhown.out, Hhsk.out, Hhq2.out, hbel5, by rw [← Hhgw.out]; exact hz5⟩, by simp [intOf]; omega⟩
            · obtain rfl : k = W.length := by omega
              have hse := hcq.finish Hhs.out HhS1.out (by omega)
              have Hhown := Lib.hid hown; clear hown; have Hhsk := Lib.hid hsk; clear hsk; have Hhcq := Lib.hid hcq; clear hcq; have Hhse := Lib.hid hse; clear hse
              go_wp2_with fail
              exact ⟨⟨i + 1, _, by omega, by simp, Hhsk.out, Hhse.out, hbel4⟩, by simp [intOf]; omega⟩
        · obtain rfl : i = l.length := by omega
          have hsl := hseen.1
          rw [Hhnl.out] at hsl
          have hat : ∀ x, x < T.length → seen[x]? = some true := fun x hx => by
            obtain ⟨a, ha⟩ := near_all.1 Hhm1.out x hx
            have haM : (nearL T S)[x]? = some (a : Int) := by rw [nearL_at hx, ha]; rfl
            rw [hseen.2 x a haM]
            obtain ⟨d, hd⟩ := (Hhs.out.bay_iff HhS1.out hx).1 haM
            have := rc_lt hd.1
            congr 1
            rw [decide_eq_true_eq]
            omega
          have Hhsk := Lib.hid hsk; clear hsk; have Hhseen := Lib.hid hseen; clear hseen; have Hhsl := Lib.hid hsl; clear hsl; have Hhat := Lib.hid hat; clear hat
          go_wp2_with fail
          go_loopw [14] (fun iv wz => ∃ x : Nat, x ≤ T.length ∧ iv = .int .i64 (x : Int) ∧ wz = wr) (fun iv _ => T.length - (intOf iv).toNat)
          case atStart => exact ⟨0, by omega, rfl, rfl⟩
          case round =>
            obtain ⟨x, hx, rfl, rfl⟩ := hrel
            by_cases hxl : x < T.length
            · have cx := (Hhsk.out.cell x).trans (bvals_at (Hhat.out x hxl))
              have hxi : (x : Int) < (T.length : Int) := by omega
              go_wp2_with fail
              exact ⟨⟨x + 1, by omega, by simp, by trivial⟩, by simp [intOf]; omega⟩
            · obtain rfl : x = T.length := by omega
              have hfi := below_call hb7 hbel hb7.size
              go_wp2_with fail
              go_ret
              exact ⟨rfl, hfi⟩
end Go.Proofs.Ytpmmjjbllmeneaa
