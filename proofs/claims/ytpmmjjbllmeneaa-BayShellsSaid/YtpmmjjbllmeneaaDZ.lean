/- The law BayShells. -/
import Derived.Test.YtpmmjjbllmeneaaDY
import Derived.Test.YtpmmjjbllmeneaaDL
namespace Go.Mesh
section
variable {N : Int} {T : List T3}
theorem Pt.uniq {out out' : List Int} {C C' : Nat} (hs : Surf N T) (h : Pt T out C T.length) (h' : Pt T out' C' T.length) : C = C' := by
  have h1 := h.np
  have h2 := h'.np
  rcases Nat.lt_trichotomy C C' with h3 | h3 | h3
  · obtain ⟨i, h4, _, h5⟩ := h.full (hs.sd_lt (i := C) (by omega))
    exact absurd h5 (h'.apart i C h4 h3)
  · exact h3
  · obtain ⟨i, h4, _, h5⟩ := h'.full (hs.sd_lt (i := C') (by omega))
    exact absurd h5 (h.apart i C' h4 h3)
/-- What Grow tells of the first seeds. -/
theorem Pt.growE (hs : Surf N T) {out : List Int} {C m : Nat} (h : Pt T out C T.length) (hm : m < T.length) (h256 : T.length ≤ 256) : growE T ((seedsL T m).map fun n : Nat => (n : Int)) = if m + 1 < C then 8 else 0 := by
  obtain ⟨hl, hnd, hlt⟩ := hs.seeds_ok (by omega) m hm
  have hmp : ((seedsL T m).map fun n : Nat => (n : Int)).map Int.toNat = seedsL T m := by
    rw [List.map_map]
    conv => rhs; rw [← List.map_id (seedsL T m)]
    exact List.map_congr_left fun s _ => rfl
  unfold Go.Mesh.growE
  rw [if_neg (by rw [List.length_map, hl]; omega), badE_ok (fun s hs' => by
    obtain ⟨y, hy, rfl⟩ := List.mem_map.1 hs'
    have := hlt y hy
    omega) (nodup_inj hnd fun a _ b _ e => by omega) _ (Nat.le_refl _)]
  simp only []
  rw [hmp]
  by_cases hc : m + 1 < C
  · rw [if_pos ((h.grows hs hm).2 hc), if_pos hc]
  · rw [if_neg (fun h9 => hc ((h.grows hs hm).1 h9)), if_neg hc]
end
end Go.Mesh
namespace Go.Proofs.Ytpmmjjbllmeneaa
open Go Go.RowKit Go.Words Go.Mesh

set_option maxRecDepth 40000 in
set_option maxHeartbeats 2000000 in
theorem count_calls {w : World} {B : Nat} {tv : Value} {N : Int} {T : List T3} (h : Tab w B tv N T) (hs : Surf N T) :
    Calls Try.prog 22 #[tv] w fun e w' => (∃ (out : List Int) (C : Nat), e = .returned (.int .i64 (C : Int)) ∧ Pt T out C T.length) ∧ Below w.heap.size w w' := by
  have hof := of_calls h hs
  have hfew := hs.tmax
  have hsl := fun i => hs.sd_lt (i := i)
  have Hh := Lib.hid h; clear h; have Hhof := Lib.hid hof; clear hof; have Hhs := Lib.hid hs; clear hs; have Hhsl := Lib.hid hsl; clear hsl
  go_enter Try.func22, Try.ntmps22
  go_wp2_with fail
  refine Hhof.out.mono ?_
  rintro e w1 ⟨⟨g, out, C, rfl, hk, hpt, hg⟩, hb1⟩
  have hC := hpt.np
  have Hhk := Lib.hid hk; clear hk; have Hhpt := Lib.hid hpt; clear hpt
  go_wp2_with fail
  go_loopw [3, 9] (fun mv iv wr => ∃ (k : Nat) (M : Int), k ≤ T.length ∧ iv = .int .i64 (k : Int) ∧ mv = .int .i64 M ∧ 0 ≤ M ∧ M ≤ C ∧ (∀ x v, x < k → out[x]? = some v → v + 1 ≤ M) ∧ wr = w1) (fun _ iv _ => T.length - (intOf iv).toNat)
  case atStart => exact ⟨0, 0, by omega, rfl, rfl, by omega, by omega, fun x v hx => by omega, rfl⟩
  case round =>
    obtain ⟨k, M, hk, rfl, rfl, hM0, hM1, hM, rfl⟩ := hrel
    by_cases hkl : k < T.length
    · obtain ⟨d, hd, hd1, hd2⟩ := Hhpt.out.val hkl
      have cd := (Hhk.out.cell k).trans (ivals_at hd)
      have hki : (k : Int) < (T.length : Int) := by omega
      have HhM := Lib.hid hM; clear hM; have Hhd := Lib.hid hd; clear hd
      go_wp2_with fail
      refine ⟨⟨k + 1, max M (d + 1), by omega, by simp, rfl, by omega, by omega, fun x v hx hv => ?_, by trivial⟩, by simp [intOf]; omega⟩
      by_cases hxk : x = k
      · rw [hxk, Hhd.out] at hv
        have := Option.some.inj hv
        omega
      · have := HhM.out x v (by omega) hv
        omega
    · obtain rfl : k = T.length := by omega
      have hMC : M = (C : Int) := by
        rcases Nat.eq_zero_or_pos C with h0 | h0
        · omega
        · have h1 := Hhsl.out (C - 1) (by omega)
          have h2 := Hhpt.out.at_ Hhs.out (i := C - 1) (by omega) h1 (Con.refl _)
          have := hM _ _ h1 h2
          omega
      subst hMC
      have HhM := Lib.hid hM; clear hM
      go_wp2_with fail
      go_ret
      exact ⟨⟨out, C, rfl, Hhpt.out⟩, hb1⟩
set_option maxRecDepth 100000 in
set_option maxHeartbeats 2000000 in
theorem shells_law (sv : Value) (N : Int) (T : List T3) (most : Nat) (w : World) {B : Nat} (hB0 : B ≤ w.heap.size) (hT : Sl 3 RTri w B sv T) (hN : I64 N) (hm : most < 256) :
    Calls Try.prog 10 #[.agg #[.int .i64 N, sv], .int .u8 (most : Int)] w fun e w' => e = .returned (.bool true) ∧ Below w.heap.size w w' := by
  obtain ⟨A, cap, rfl, hcap⟩ := hT.form
  have hb1 := (Below.refl w.heap.size w).alloc (Nat.le_refl _) (.cells #[.int .i64 N, .slice A T.length cap] 24)
  have hbox := Bk.new w 24 [.int .i64 N, .slice A T.length cap]
  have hTA := hT.below keeps_tri (hb1.mono hB0)
  have hbl := hbox.lt
  have c0 := hbox.cell 0
  have c1 := hbox.cell 1
  simp only [List.getElem?_cons_zero, List.getElem?_cons_succ] at c0 c1
  generalize hw0 : w.alloc (.cells #[.int .i64 N, .slice A T.length cap] 24) = w0 at *
  have haw := awake39_calls w0
  have hz0 := hb1.size
  have HhT := Lib.hid hT; have Hhbox := Lib.hid hbox; have HhTA := Lib.hid hTA; have Hhaw := Lib.hid haw; clear hT hbox hTA haw
  go_enter Try.func10, Try.ntmps10
  go_wp2_with fail
  clear hw0
  refine Hhaw.out.mono ?_
  rintro e w1 ⟨rfl, hb2⟩
  have hb3 := below_call hb1 hb2 hb1.size
  have d0 : w1.cell? ⟨w.heap.size, 0, none⟩ = some (.int .i64 N) := (hb2.cell (p := ⟨w.heap.size, 0, none⟩) hbl).trans c0
  have d1 : w1.cell? ⟨w.heap.size, 1, none⟩ = some (.slice A T.length cap) := (hb2.cell (p := ⟨w.heap.size, 1, none⟩) hbl).trans c1
  have hT1 := HhTA.out.below keeps_tri (hb2.mono (by omega))
  have hz1 := hb2.size
  have htb := table39_calls hT1 (by omega) hN
  have HhT1 := Lib.hid hT1; have Hhtb := Lib.hid htb; clear hT1 htb
  go_wp2_with fail
  refine Hhtb.out.mono ?_
  rintro e w2 ⟨⟨pv, B', rfl, hor⟩, hb4⟩
  have hb5 := below_call hb3 hb4 hb3.size
  have hz2 := hb4.size
  have e0 : w2.cell? ⟨w.heap.size, 0, none⟩ = some (.int .i64 N) := (hb4.cell (p := ⟨w.heap.size, 0, none⟩) (by show w.heap.size < _; omega)).trans d0
  have e1 : w2.cell? ⟨w.heap.size, 1, none⟩ = some (.slice A T.length cap) := (hb4.cell (p := ⟨w.heap.size, 1, none⟩) (by show w.heap.size < _; omega)).trans d1
  have hT2 := HhT1.out.below keeps_tri (hb4.mono (by omega))
  have hbw2 : w.heap.size < w2.heap.size := by omega
  have hB2 : B ≤ w2.heap.size := by omega
  have hw12 : Below w.heap.size w w1 := hb3
  clear c0 c1 d0 d1
  rcases hor with ⟨hsm, hs, htab⟩ | ⟨hno, rfl⟩
  case inr =>
    have HhT2 := Lib.hid hT2; have Hhno := Lib.hid hno; clear hT2 hno
    go_wp2_with fail
    go_ret
    exact ⟨rfl, hb5⟩
  obtain ⟨g, rfl⟩ : ∃ g, pv = .pointer (some ⟨g, 0, none⟩) := by
    obtain ⟨g, _, _, _, _, _, rfl, _⟩ := htab
    exact ⟨_, rfl⟩
  have hle := htab.le
  obtain ⟨h30, hN0, h60⟩ := hsm
  by_cases hT0 : T.length = 0
  case pos =>
    have hz0 : ((T.length : Int) == 0) = true := by rw [hT0]; rfl
    clear hT0
    have HhT2 := Lib.hid hT2; have Hhs := Lib.hid hs; have Hhtab := Lib.hid htab; clear hT2 hs htab
    go_wp2_with fail
    go_ret
    exact ⟨rfl, hb5⟩
  have hz0' : ((T.length : Int) == 0) = false := by rw [beq_eq_false_iff_ne]; omega
  obtain ⟨n, hn1, hn2⟩ : ∃ n : Nat, ((most : Int) % 40) = (n : Int) ∧ n < 40 := ⟨most % 40, by omega, by omega⟩
  have hse1 := seeds_calls htab hs (1 + (n : Int))
  obtain ⟨m, hm1, hm2, hm3⟩ : ∃ m, seedsOf T (1 + (n : Int)) = seedsL T m ∧ m < T.length ∧ m + 1 = min (n + 1) T.length := by
    refine ⟨min (1 + (n : Int)).toNat (min 256 T.length) - 1, ?_, by omega, by omega⟩
    unfold seedsOf
    rw [if_neg (by omega)]
  rw [hm1] at hse1
  obtain ⟨hsl, hsnd, hslt⟩ := hs.seeds_ok (by omega) m hm2
  have hof := fun wz (hz : Below w2.heap.size w2 wz) => of_calls (htab.below (hz.mono hle) (Nat.le_refl _)) hs
  have hco := fun wz (hz : Below w2.heap.size w2 wz) => count_calls (htab.below (hz.mono hle) (Nat.le_refl _)) hs
  have hgr := fun wz r B2 (hz : Below w2.heap.size w2 wz) l h1 h2 h3 => grow_calls (l := l) (sv := r) (B2 := B2) (htab.below (hz.mono hle) (Nat.le_refl _)) hs h1 h2 h3
  have hsd := fun i (hi : i ≤ m) => hs.sd_at hi hm2
  have hgE := fun out C (hp : Pt T out C T.length) => hp.growE hs hm2 (by omega)
  have hX30 : (seedsL T m).length ≤ 30 ∧ 0 < (seedsL T m).length := by omega
  have hXn : (seedsL T m).length = min (n + 1) T.length := by omega
  generalize hX : seedsL T m = X at *
  obtain ⟨hX30, hX0⟩ := hX30
  have HhT2 := Lib.hid hT2; have Hhs := Lib.hid hs; have Hhtab := Lib.hid htab; have Hhse1 := Lib.hid hse1; have Hhof := Lib.hid hof; have Hhco := Lib.hid hco; have Hhgr := Lib.hid hgr; have HhX := Lib.hid hX; have Hhm1 := Lib.hid hm1; have Hhm2 := Lib.hid hm2; have Hhm3 := Lib.hid hm3; have Hhsl := Lib.hid hsl; have Hhsnd := Lib.hid hsnd; have Hhslt := Lib.hid hslt; have Hhsd := Lib.hid hsd; have HhgE := Lib.hid hgE; have HhXn := Lib.hid hXn; clear hT2 hs htab hse1 hof hco hgr hX hm1 hm2 hm3 hsl hsnd hslt hsd hgE hXn
  go_wp2_with fail
  refine Hhse1.out.mono ?_
  rintro e w3 ⟨⟨r3, rfl, hown3⟩, hb6⟩
  obtain ⟨A3, cap3, rfl, hc3⟩ := own_form hown3
  have hz3 := hb6.size
  have hb8 := below_call hb5 hb6 hb5.size
  have hs3 := sl_nvals hown3
  have Hhown3 := Lib.hid hown3; clear hown3; have Hhs3 := Lib.hid hs3; clear hs3
  go_wp2_with fail
  refine (Hhof.out w3 hb6).mono ?_
  rintro e w4 ⟨⟨g4, out, C, rfl, hk4, hpt, hg4⟩, hb7⟩
  have hz4 := hb7.size
  have hd4 := hb6.trans (hb7.mono hz3)
  have hb9 := below_call hb8 hb7 hb8.size
  have hs4 := Hhs3.out.keep (B' := w4.heap.size) keeps_int hb7 hz4
  have Hhk4 := Lib.hid hk4; clear hk4; have Hhs4 := Lib.hid hs4; clear hs4; have Hhpt := Lib.hid hpt; clear hpt
  go_wp2_with fail
  refine (Hhco.out w4 hd4).mono ?_
  rintro e w5 ⟨⟨out', C', rfl, hpt'⟩, hb10⟩
  obtain rfl : C = C' := Hhpt.out.uniq Hhs.out hpt'
  have hz5 := hb10.size
  have hd5 := hd4.trans (hb10.mono hd4.size)
  have hb11 := below_call hb9 hb10 hb9.size
  have hs5 := Hhs4.out.keep (B' := w5.heap.size) keeps_int hb10 hz5
  have hk5 := Hhk4.out.below hb10 Hhk4.out.lt
  have q1 : w5.cell? ⟨w.heap.size, 1, none⟩ = some (.slice A T.length cap) := (hd5.cell (p := ⟨w.heap.size, 1, none⟩) hbw2).trans e1
  have hol := Hhpt.out.len
  have hCn := Hhpt.out.np.1
  have hXle : (X.length : Int) ≤ 1 + (n : Int) := by have := HhXn.out; omega
  have hX1 : 1 ≤ (X.length : Int) := by omega
  have hTT : ((T.length : Int) != (T.length : Int)) = false := bne_self_eq_false _
  clear hpt' e0 e1
  have Hhk5 := Lib.hid hk5; clear hk5; have Hhs5 := Lib.hid hs5; clear hs5
  go_wp2_with fail
  go_loopw [10] (fun iv wr => ∃ i : Nat, i ≤ X.length ∧ i ≤ C ∧ iv = .int .i64 (i : Int) ∧ wr = w5) (fun iv _ => X.length - (intOf iv).toNat)
  case atStart => exact ⟨0, by omega, by omega, rfl, rfl⟩
  case round =>
    obtain ⟨i, hi, hiC, rfl, rfl⟩ := hrel
    obtain ⟨w6, hw6⟩ : ∃ w6, w6 = wr := ⟨_, rfl⟩
    subst hw6
    have hE := Hhgr.out w6 _ _ hd5 (X.map fun n : Nat => (n : Int)) (Nat.le_refl _) Hhs5.out (by rw [List.length_map]; omega)
    have hgr8 := HhgE.out out C Hhpt.out
    by_cases hiX : i < X.length
    · obtain ⟨b, o, rfl, hb, c1⟩ := Hhs5.out.int_at (k := i) (by rw [List.length_map]; exact hiX)
      rw [List.getElem_map] at c1
      have hxi := Hhsd.out i (by have := Hhsl.out; omega)
      rw [List.getElem?_eq_getElem hiX] at hxi
      have hxi := Option.some.inj hxi
      rw [hxi] at c1
      have hii : (i : Int) < (X.length : Int) := by omega
      by_cases hic : i < C
      · have hsl2 := Hhslt.out _ (List.getElem_mem hiX)
        rw [hxi] at hsl2
        have hat := Hhpt.out.at_ Hhs.out hic hsl2 (Con.refl _)
        have cx := (Hhk5.out.cell (sd T i)).trans (ivals_at hat)
        clear hxi
        generalize sd T i = x at *
        have hici : (i : Int) < (C : Int) := by omega
        have hxi2 : (x : Int) < (T.length : Int) := by omega
        have hine : ((i : Int) != (i : Int)) = false := bne_self_eq_false _
        have HhE := Lib.hid hE; clear hE; have Hhgr8 := Lib.hid hgr8; clear hgr8; have Hhat := Lib.hid hat; clear hat
        go_wp2_with fail
        exact ⟨⟨i + 1, by omega, by omega, by simp, by trivial⟩, by simp [intOf]; omega⟩
      · have hici : (C : Int) ≤ (i : Int) := by omega
        clear c1 hxi
        have HhE := Lib.hid hE; clear hE; have Hhgr8 := Lib.hid hgr8; clear hgr8
        go_wp2_with fail
        refine HhE.out.mono ?_
        rintro e w7 ⟨⟨r7, rfl, hr7⟩, hb12⟩
        rw [Hhgr8.out]
        have hb13 := below_call hb11 hb12 hb11.size
        obtain ⟨A7, cap7, rfl, -⟩ := hr7.form
        have Hhr7 := Lib.hid hr7; clear hr7
        by_cases hnC : n + 1 < C
        · have hmC : m + 1 < C := by have := Hhm3.out; omega
          rw [if_pos hmC]
          have hnCi : 1 + (n : Int) < (C : Int) := by omega
          have hnCd : decide ((C : Int) ≤ 1 + (n : Int)) = false := decide_eq_false (by omega)
          clear hmC hnC
          go_wp2_with fail
          all_goals go_ret
          all_goals exact ⟨rfl, hb13⟩
        · have hmC : ¬ m + 1 < C := by have := Hhm3.out; omega
          rw [if_neg hmC]
          have hnCi : (C : Int) ≤ 1 + (n : Int) := by omega
          clear hmC hnC
          go_wp2_with fail
          all_goals go_ret
          all_goals exact ⟨rfl, hb13⟩
    · have hXi : (X.length : Int) ≤ (i : Int) := by omega
      have HhE := Lib.hid hE; clear hE; have Hhgr8 := Lib.hid hgr8; clear hgr8
      go_wp2_with fail
      refine HhE.out.mono ?_
      rintro e w7 ⟨⟨r7, rfl, hr7⟩, hb12⟩
      rw [Hhgr8.out]
      have hb13 := below_call hb11 hb12 hb11.size
      obtain ⟨A7, cap7, rfl, -⟩ := hr7.form
      have Hhr7 := Lib.hid hr7; clear hr7
      by_cases hnC : n + 1 < C
      · have hmC : m + 1 < C := by have := Hhm3.out; omega
        rw [if_pos hmC]
        have hnCi : 1 + (n : Int) < (C : Int) := by omega
        have hnCd : decide ((C : Int) ≤ 1 + (n : Int)) = false := decide_eq_false (by omega)
        clear hmC hnC
        go_wp2_with fail
        all_goals go_ret
        all_goals exact ⟨rfl, hb13⟩
      · have hmC : ¬ m + 1 < C := by have := Hhm3.out; omega
        rw [if_neg hmC]
        have hnCi : (C : Int) ≤ 1 + (n : Int) := by omega
        clear hmC hnC
        go_wp2_with fail
        all_goals go_ret
        all_goals exact ⟨rfl, hb13⟩
end Go.Proofs.Ytpmmjjbllmeneaa
