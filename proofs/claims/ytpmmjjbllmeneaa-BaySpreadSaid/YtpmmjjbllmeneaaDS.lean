/- The law BaySpread. -/
import Derived.Test.YtpmmjjbllmeneaaDP
namespace Go.Mesh
/-- No two seeds are nearer to one another than the farthest triangle is to the nearest. -/
theorem Surf.spread {N : Int} {T : List T3} (h : Surf N T) (hT : 0 < T.length) {m : Nat} (hm : m < T.length) {i k a b : Nat} {d : Int} (hik : i ≠ k) (ha : (seedsL T m)[i]? = some a) (hb : (seedsL T m)[k]? = some b) (hd : (distL T [a])[b]? = some d) (h0 : 0 ≤ d) {W : Int} (hW : W = 0 ∨ ∃ x : Nat, (distL T (seedsL T m))[x]? = some W) : W ≤ d := by
  rcases hW with hW | ⟨x, hx⟩
  · omega
  obtain ⟨hl, _, hlt⟩ := h.seeds_ok hT m hm
  have hxl := (List.getElem?_eq_some_iff.1 hx).1
  rw [distL_len] at hxl
  have hbl := hlt b (List.mem_of_getElem? hb)
  have hal := hlt a (List.mem_of_getElem? ha)
  rw [distL_at hxl] at hx
  rw [distL_at hbl] at hd
  cases he : distO T [a] b with
  | none => rw [he] at hd; have := Option.some.inj hd; simp [optI] at this; omega
  | some e =>
    rw [he] at hd
    have hde : d = (e : Int) := (Option.some.inj hd).symm
    cases hf : distO T (seedsL T m) x with
    | none => rw [hf] at hx; have := Option.some.inj hx; simp [optI] at this; omega
    | some f =>
      rw [hf] at hx
      have hWf : W = (f : Int) := (Option.some.inj hx).symm
      have h1 := (h.dist_iff hlt).1 hf
      have h2 := (h.dist_iff (S := [a]) (fun s hs => by rw [List.mem_singleton.1 hs]; exact hal)).1 he
      obtain ⟨j, hj⟩ := h2.1
      obtain ⟨s, hs1, hs2⟩ := rc_some.1 hj
      obtain rfl : s = a := by
        have := List.mem_of_getElem? hs1
        exact List.mem_singleton.1 this
      rcases Nat.lt_or_ge i k with h3 | h3
      · have := h.seeds_apart hT hm h3 ha hb hs2 h1
        omega
      · have := h.seeds_apart hT hm (by omega : k < i) hb ha (h.rch_symm hs2) h1
        omega
end Go.Mesh
namespace Go.Proofs.Ytpmmjjbllmeneaa
open Go Go.RowKit Go.Words Go.Mesh

set_option maxRecDepth 100000 in
set_option maxHeartbeats 2000000 in
theorem spread_law (sv : Value) (N : Int) (T : List T3) (most : Nat) (w : World) {B : Nat} (hB0 : B ≤ w.heap.size) (hT : Sl 3 RTri w B sv T) (hN : I64 N) (hm : most < 256) :
    Calls Try.prog 6 #[.agg #[.int .i64 N, sv], .int .u8 (most : Int)] w fun e w' => e = .returned (.bool true) ∧ Below w.heap.size w w' := by
  obtain ⟨A, cap, rfl, hcap⟩ := hT.form
  have hb1 := (Below.refl w.heap.size w).alloc (Nat.le_refl _) (.cells #[.int .i64 N, .slice A T.length cap] 24)
  have hbox := Bk.new w 24 [.int .i64 N, .slice A T.length cap]
  have hTA := hT.below keeps_tri (hb1.mono hB0)
  have hbl := hbox.lt
  have c0 := hbox.cell 0
  have c1 := hbox.cell 1
  simp only [List.getElem?_cons_zero, List.getElem?_cons_succ] at c0 c1
  generalize hw0 : w.alloc (.cells #[.int .i64 N, .slice A T.length cap] 24) = w0 at *
  have haw := awake39_calls w0
  have hz0 := hb1.size
  have HhT := Lib.hid hT; have Hhbox := Lib.hid hbox; have HhTA := Lib.hid hTA; have Hhaw := Lib.hid haw; clear hT hbox hTA haw
  go_enter Try.func6, Try.ntmps6
  go_wp2_with fail
  clear hw0
  refine Hhaw.out.mono ?_
  rintro e w1 ⟨rfl, hb2⟩
  have hb3 := below_call hb1 hb2 hb1.size
  have d0 : w1.cell? ⟨w.heap.size, 0, none⟩ = some (.int .i64 N) := (hb2.cell (p := ⟨w.heap.size, 0, none⟩) hbl).trans c0
  have d1 : w1.cell? ⟨w.heap.size, 1, none⟩ = some (.slice A T.length cap) := (hb2.cell (p := ⟨w.heap.size, 1, none⟩) hbl).trans c1
  have hT1 := HhTA.out.below keeps_tri (hb2.mono (by omega))
  have hz1 := hb2.size
  have htb := table39_calls hT1 (by omega) hN
  have HhT1 := Lib.hid hT1; have Hhtb := Lib.hid htb; clear hT1 htb
  go_wp2_with fail
  refine Hhtb.out.mono ?_
  rintro e w2 ⟨⟨pv, B', rfl, hor⟩, hb4⟩
  have hb5 := below_call hb3 hb4 hb3.size
  have hz2 := hb4.size
  have e0 : w2.cell? ⟨w.heap.size, 0, none⟩ = some (.int .i64 N) := (hb4.cell (p := ⟨w.heap.size, 0, none⟩) (by show w.heap.size < _; omega)).trans d0
  have e1 : w2.cell? ⟨w.heap.size, 1, none⟩ = some (.slice A T.length cap) := (hb4.cell (p := ⟨w.heap.size, 1, none⟩) (by show w.heap.size < _; omega)).trans d1
  have hT2 := HhT1.out.below keeps_tri (hb4.mono (by omega))
  have hbw2 : w.heap.size < w2.heap.size := by omega
  have hB2 : B ≤ w2.heap.size := by omega
  have hw12 : Below w.heap.size w w1 := hb3
  clear c0 c1 d0 d1
  rcases hor with ⟨hsm, hs, htab⟩ | ⟨hno, rfl⟩
  case inr =>
    have HhT2 := Lib.hid hT2; have Hhno := Lib.hid hno; clear hT2 hno
    go_wp2_with fail
    go_ret
    exact ⟨rfl, hb5⟩
  obtain ⟨g, rfl⟩ : ∃ g, pv = .pointer (some ⟨g, 0, none⟩) := by
    obtain ⟨g, _, _, _, _, _, rfl, _⟩ := htab
    exact ⟨_, rfl⟩
  have hle := htab.le
  obtain ⟨h30, hN0, h60⟩ := hsm
  by_cases hT0 : T.length = 0
  case pos =>
    have hz0 : ((T.length : Int) == 0) = true := by rw [hT0]; rfl
    clear hT0
    have HhT2 := Lib.hid hT2; have Hhs := Lib.hid hs; have Hhtab := Lib.hid htab; clear hT2 hs htab
    go_wp2_with fail
    go_ret
    exact ⟨rfl, hb5⟩
  have hz0' : ((T.length : Int) == 0) = false := by rw [beq_eq_false_iff_ne]; omega
  obtain ⟨n, hn1, hn2⟩ : ∃ n : Nat, ((most : Int) % 12) = (n : Int) ∧ n < 12 := ⟨most % 12, by omega, by omega⟩
  have hse1 := seeds_calls htab hs (1 + (n : Int))
  obtain ⟨m, hm1, hm2⟩ : ∃ m, seedsOf T (1 + (n : Int)) = seedsL T m ∧ m < T.length := by
    refine ⟨min (1 + (n : Int)).toNat (min 256 T.length) - 1, ?_, by omega⟩
    unfold seedsOf
    rw [if_neg (by omega)]
  rw [hm1] at hse1
  obtain ⟨hsl, hsnd, hslt⟩ := hs.seeds_ok (by omega) m hm2
  have hsp := fun i k a b d h1 h2 h3 h4 h5 W h6 => hs.spread (by omega) hm2 (i := i) (k := k) (a := a) (b := b) (d := d) h1 h2 h3 h4 h5 (W := W) h6
  have hrf := fun wz (hz : Below w2.heap.size w2 wz) lv B2 S h1 h2 h3 h4 => reffar_calls (N := N) (S := S) (lv := lv) (B2 := B2) (hT2.below keeps_tri (hz.mono hB2)) (by have := hz.size; omega) hs h1 h2 h3 h4
  have hX30 : (seedsL T m).length ≤ 30 ∧ 0 < (seedsL T m).length := by omega
  generalize hX : seedsL T m = X at *
  obtain ⟨hX30, hX0⟩ := hX30
  have HhT2 := Lib.hid hT2; have Hhs := Lib.hid hs; have Hhtab := Lib.hid htab; have Hhse1 := Lib.hid hse1; have Hhrf := Lib.hid hrf; have HhX := Lib.hid hX; have Hhm1 := Lib.hid hm1; have Hhm2 := Lib.hid hm2; have Hhsl := Lib.hid hsl; have Hhsnd := Lib.hid hsnd; have Hhslt := Lib.hid hslt; have Hhsp := Lib.hid hsp; clear hT2 hs htab hse1 hrf hX hm1 hm2 hsl hsnd hslt hsp
  go_wp2_with fail
  refine Hhse1.out.mono ?_
  rintro e w3 ⟨⟨r3, rfl, hown3⟩, hb6⟩
  obtain ⟨A3, cap3, rfl, hc3⟩ := own_form hown3
  have hz3 := hb6.size
  have hb8 := below_call hb5 hb6 hb5.size
  have hs3 := sl_nvals hown3
  have q0 : w3.cell? ⟨w.heap.size, 0, none⟩ = some (.int .i64 N) := (hb6.cell (p := ⟨w.heap.size, 0, none⟩) hbw2).trans e0
  have q1 : w3.cell? ⟨w.heap.size, 1, none⟩ = some (.slice A T.length cap) := (hb6.cell (p := ⟨w.heap.size, 1, none⟩) hbw2).trans e1
  have Hhown3 := Lib.hid hown3; clear hown3; have Hhs3 := Lib.hid hs3; clear hs3
  clear e0 e1
  go_wp2_with fail
  have hf0 := Below.refl w3.heap.size w3
  have hbw3 : w.heap.size < w3.heap.size := by omega
  go_loopw [7] (fun iv wr => ∃ i : Nat, i ≤ X.length ∧ iv = .int .i64 (i : Int) ∧ Below w3.heap.size w3 wr) (fun iv _ => X.length - (intOf iv).toNat)
  case atStart => exact ⟨0, by omega, rfl, hf0⟩
  case round =>
    obtain ⟨i, hi, rfl, hbr⟩ := hrel
    have hs3r := Hhs3.out.keep (B' := wr.heap.size) keeps_int hbr hbr.size
    have q0r : wr.cell? ⟨w.heap.size, 0, none⟩ = some (.int .i64 N) := (hbr.cell (p := ⟨w.heap.size, 0, none⟩) hbw3).trans q0
    have q1r : wr.cell? ⟨w.heap.size, 1, none⟩ = some (.slice A T.length cap) := (hbr.cell (p := ⟨w.heap.size, 1, none⟩) hbw3).trans q1
    clear q0 q1
    by_cases him : i < X.length
    · obtain ⟨b, o, rfl, hb, c1⟩ := hs3r.int_at (k := i) (by rw [List.length_map]; exact him)
      rw [List.getElem_map] at c1
      have hyl := Hhslt.out _ (List.getElem_mem him)
      generalize X[i] = y at *
      have hyi : (y : Int) < (T.length : Int) := by omega
      have hii : (i : Int) < (X.length : Int) := by omega
      have Hhs3r := Lib.hid hs3r; clear hs3r
      go_wp2_with fail
      refine Go.Canon.wp_region_text mixed (by kernel_rfl) ?_
      go_wp2_with fail
      refine Go.Canon.chk (by rfl) ?_
      go_wp2_with fail
      exact ⟨⟨i + 1, by omega, by simp, hbr.drew⟩, by simp [intOf]; omega⟩
    · obtain rfl : i = X.length := by omega
      have hd2r : Below w2.heap.size w2 wr := hb6.trans (hbr.mono hz3)
      have hfa := Hhrf.out wr hd2r _ _ X hs3r (Nat.le_refl _) Hhslt.out (by omega)
      have Hhs3r := Lib.hid hs3r; clear hs3r; have Hhfa := Lib.hid hfa; clear hfa
      go_wp2_with fail
      refine Hhfa.out.mono ?_
      rintro e w4 ⟨⟨gf, rfl, hkf, hgf⟩, hb7⟩
      have hz4 := hb7.size
      have hd4 := hd2r.trans (hb7.mono hd2r.size)
      have hb9 := below_call hb5 hd4 hb5.size
      have hdl := distL_len T X
      have hs4 := Hhs3r.out.keep (B' := w4.heap.size) keeps_int hb7 hz4
      have p0 : w4.cell? ⟨w.heap.size, 0, none⟩ = some (.int .i64 N) := (hb7.cell (p := ⟨w.heap.size, 0, none⟩) (by show w.heap.size < _; have := hbr.size; omega)).trans q0r
      have p1 : w4.cell? ⟨w.heap.size, 1, none⟩ = some (.slice A T.length cap) := (hb7.cell (p := ⟨w.heap.size, 1, none⟩) (by show w.heap.size < _; have := hbr.size; omega)).trans q1r
      clear q0r q1r
      have hdval : ∀ (x : Nat) d, (distL T X)[x]? = some d → d < (T.length : Int) := fun x d h => by
        have hx := (List.getElem?_eq_some_iff.1 h).1
        rw [hdl] at hx
        rw [distL_at hx] at h
        cases hq : distO T X x with
        | none => rw [hq] at h; have := Option.some.inj h; simp [optI] at this; omega
        | some f =>
          rw [hq] at h
          have h9 := (Hhs.out.dist_lt Hhslt.out ((Hhs.out.dist_iff Hhslt.out).1 hq)).1
          have := Option.some.inj h
          simp [optI] at this
          omega
      have hsp := Hhsp.out
      generalize distL T X = D at *
      have Hhkf := Lib.hid hkf; clear hkf; have Hhs4 := Lib.hid hs4; clear hs4; have Hhsp := Lib.hid hsp; clear hsp; have Hhdval := Lib.hid hdval; clear hdval
      clear Hhs3r Hhfa
      go_wp2_with fail
      go_loopw [9, 10] (fun wv iv wr => ∃ (i : Nat) (W : Int), i ≤ T.length ∧ iv = .int .i64 (i : Int) ∧ wv = .int .i64 W ∧ 0 ≤ W ∧ W < 1000 ∧ (W = 0 ∨ ∃ x : Nat, D[x]? = some W) ∧ wr = w4) (fun _ iv _ => T.length - (intOf iv).toNat)
      case atStart => exact ⟨0, 0, by omega, rfl, rfl, by omega, by omega, .inl rfl, rfl⟩
      case round =>
        obtain ⟨i, W, hi, rfl, rfl, hW0, hW1, hW, rfl⟩ := hrel
        obtain ⟨w5, hw5⟩ : ∃ w5, w5 = wr := ⟨_, rfl⟩
        subst hw5
        by_cases hiT : i < T.length
        · obtain ⟨d, hd⟩ : ∃ d, D[i]? = some d := ⟨_, List.getElem?_eq_getElem (by rw [hdl]; exact hiT)⟩
          have cd := (Hhkf.out.cell i).trans (ivals_at hd)
          have hd9 := Hhdval.out i d hd
          have hii : (i : Int) < (T.length : Int) := by omega
          by_cases hneg : d < 0
          · have HhW := Lib.hid hW; clear hW; have Hhd := Lib.hid hd; clear hd
            go_wp2_with fail
            go_ret
            exact ⟨rfl, hb9⟩
          · by_cases hWd : W < d
            · have HhW := Lib.hid hW; clear hW; have Hhd := Lib.hid hd; clear hd
              go_wp2_with fail
              exact ⟨⟨i + 1, d, by omega, by simp, by rw [show max W d = d by omega], by omega, by omega, .inr ⟨i, Hhd.out⟩, by trivial⟩, by simp [intOf]; omega⟩
            · have HhW := Lib.hid hW; clear hW; have Hhd := Lib.hid hd; clear hd
              go_wp2_with fail
              exact ⟨⟨i + 1, W, by omega, by simp, by rw [show max W d = W by omega], by omega, by omega, HhW.out, by trivial⟩, by simp [intOf]; omega⟩
        · obtain rfl : i = T.length := by omega
          have HhW := Lib.hid hW; clear hW
          go_wp2_with fail
          have hbw5 : w.heap.size < w5.heap.size := by have := hbr.size; omega
          have hd5 := Below.refl w5.heap.size w5
          go_loopw [11] (fun iv wr => ∃ i : Nat, i ≤ X.length ∧ iv = .int .i64 (i : Int) ∧ Below w5.heap.size w5 wr) (fun iv _ => X.length - (intOf iv).toNat)
          case atStart => exact ⟨0, by omega, rfl, hd5⟩
          case round =>
            clear hi
            obtain ⟨i, hi, rfl, hbq⟩ := hrel
            obtain ⟨w6, hw6⟩ : ∃ w6, w6 = wr := ⟨_, rfl⟩
            subst hw6
            have hd6 := hd4.trans (hbq.mono hd4.size)
            have hb10 := below_call hb9 hbq hb9.size
            have hs6 := Hhs4.out.keep (B' := w6.heap.size) keeps_int hbq hbq.size
            have r0 : w6.cell? ⟨w.heap.size, 0, none⟩ = some (.int .i64 N) := (hbq.cell (p := ⟨w.heap.size, 0, none⟩) hbw5).trans p0
            have r1 : w6.cell? ⟨w.heap.size, 1, none⟩ = some (.slice A T.length cap) := (hbq.cell (p := ⟨w.heap.size, 1, none⟩) hbw5).trans p1
            clear p0 p1
            by_cases hiX : i < X.length
            · have hii : (i : Int) < (X.length : Int) := by omega
              have hdr := (hs6.drop (k := i) (by omega)).take (k := 1) (by omega)
              rw [List.drop_eq_getElem_cons (by rw [List.length_map]; exact hiX), List.take_succ_cons, List.take_zero, List.getElem_map, if_neg (by have := hs6.len; omega : ¬ cap3 = i), Nat.mul_one] at hdr
              have hyl := Hhslt.out _ (List.getElem_mem hiX)
              have hxi := List.getElem?_eq_getElem hiX
              generalize X[i] = y at *
              have hfa := fun wz v (hz : Below w6.heap.size w6 wz) (hv : Sl 1 RInt w6 w6.heap.size v [(y : Int)]) => Hhrf.out wz (hd6.trans (hz.mono hd6.size)) v w6.heap.size [y] (hv.below keeps_int hz) hz.size (fun s hs => by rw [List.mem_singleton.1 hs]; exact hyl) (by simp)
              have Hhs6 := Lib.hid hs6; clear hs6; have Hhdr := Lib.hid hdr; clear hdr; have Hhxi := Lib.hid hxi; clear hxi; have Hhfa := Lib.hid hfa; clear hfa
              go_wp2_with fail
              refine Go.Canon.wp_region_text mixed (by kernel_rfl) ?_
              go_wp2_with fail
              refine (Hhfa.out w6.drew _ (Below.refl _ _).drew Hhdr.out).mono ?_
              rintro e w7 ⟨⟨gq, rfl, hkq, hgq⟩, hb11⟩
              have hb12 : Below w6.heap.size w6 w7 := (Below.refl _ _).drew.trans hb11
              have hbw7 := hbq.trans (hb12.mono hbq.size)
              have hb13 := below_call hb10 hb12 hb10.size
              have hs7 := Hhs6.out.keep (B' := w7.heap.size) keeps_int hb12 hb12.size
              have hdq := distL_len T [y]
              have hsp1 := fun k b d h1 h2 h3 h4 => Hhsp.out i k y b d h1 Hhxi.out h2 h3 h4 W HhW.out
              generalize distL T [y] = E at *
              have Hhkq := Lib.hid hkq; clear hkq; have Hhs7 := Lib.hid hs7; clear hs7; have Hhsp1 := Lib.hid hsp1; clear hsp1
              clear Hhfa Hhdr
              go_wp2_with fail
              refine Go.Canon.chk (by rfl) ?_
              go_wp2_with fail
              go_loopw [13] (fun iv wr => ∃ k : Nat, k ≤ X.length ∧ iv = .int .i64 (k : Int) ∧ wr = w7) (fun iv _ => X.length - (intOf iv).toNat)
              case atStart => exact ⟨0, by omega, rfl, rfl⟩
              case round =>
                obtain ⟨k, hk, rfl, rfl⟩ := hrel
                by_cases hkX : k < X.length
                · have hki : (k : Int) < (X.length : Int) := by omega
                  obtain ⟨b1, o1, rfl, hb1l, c1⟩ := Hhs7.out.int_at (k := k) (by rw [List.length_map]; exact hkX)
                  rw [List.getElem_map] at c1
                  have hxk := List.getElem?_eq_getElem hkX
                  have hvl := Hhslt.out _ (List.getElem_mem hkX)
                  generalize X[k] = v at *
                  have hvi : (v : Int) < (T.length : Int) := by omega
                  obtain ⟨d, hd⟩ : ∃ d, E[v]? = some d := ⟨_, List.getElem?_eq_getElem (by rw [hdq]; exact hvl)⟩
                  have cd := (Hhkq.out.cell v).trans (ivals_at hd)
                  by_cases hik : i = k
                  · have hikn : ((k : Int) != (i : Int)) = false := by rw [hik]; exact bne_self_eq_false _
                    have hike : (k : Int) = (i : Int) := by omega
                    have Hhxk := Lib.hid hxk; clear hxk; have Hhd := Lib.hid hd; clear hd; have Hhik := Lib.hid hik; clear hik
                    go_wp2_with fail
                    exact ⟨⟨k + 1, by omega, by simp [hike], by trivial⟩, by simp [intOf]; omega⟩
                  · have hikn : ((k : Int) != (i : Int)) = true := by rw [bne_iff_ne]; omega
                    have hike : ¬ (k : Int) = (i : Int) := by omega
                    by_cases h0 : d < 0
                    · have Hhxk := Lib.hid hxk; clear hxk; have Hhd := Lib.hid hd; clear hd; have Hhik := Lib.hid hik; clear hik
                      go_wp2_with fail
                      exact ⟨⟨k + 1, by omega, by simp, by trivial⟩, by simp [intOf]; omega⟩
                    · have hWd := Hhsp1.out k v d hik hxk hd (by omega)
                      have Hhxk := Lib.hid hxk; clear hxk; have Hhd := Lib.hid hd; clear hd; have Hhik := Lib.hid hik; clear hik
                      go_wp2_with fail
                      all_goals exact ⟨⟨k + 1, by omega, by simp, by trivial⟩, by simp [intOf]; omega⟩
                · obtain rfl : k = X.length := by omega
                  go_wp2_with fail
                  exact ⟨⟨i + 1, by omega, by simp, hbw7⟩, by simp [intOf]; omega⟩
            · obtain rfl : i = X.length := by omega
              have Hhs6 := Lib.hid hs6; clear hs6
              go_wp2_with fail
              go_ret
              exact ⟨rfl, hb10⟩
end Go.Proofs.Ytpmmjjbllmeneaa
