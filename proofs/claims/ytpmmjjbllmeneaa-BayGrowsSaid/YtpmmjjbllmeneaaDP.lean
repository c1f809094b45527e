/- Walks: ref39's Seeds. -/
import Derived.Test.YtpmmjjbllmeneaaDO
namespace Go.Mesh
theorem Surf.pick_done {N : Int} {T : List T3} (h : Surf N T) {m : Nat} (hm : m + 1 = T.length) : pick (distL T (seedsL T m)) T.length = none := by
  obtain ⟨h1, h2, h3⟩ := h.seeds_ok (by omega) m (by omega)
  cases hp : pick (distL T (seedsL T m)) T.length with
  | none => rfl
  | some b =>
    exfalso
    obtain ⟨h4, h5, _⟩ := pick_is hp
    have h6 : b ∉ seedsL T m := fun h9 => h5 ((h.dist_mem h3 h4).2 h9)
    have h7 : (b :: seedsL T m).length ≤ (List.range T.length).length := nodup_len (List.nodup_cons.2 ⟨h6, h2⟩) fun x hx => by
      rcases List.mem_cons.1 hx with rfl | hx
      · exact List.mem_range.2 h4
      · exact List.mem_range.2 (h3 x hx)
    rw [List.length_cons, List.length_range] at h7
    omega
end Go.Mesh
namespace Go.Proofs.Ytpmmjjbllmeneaa
open Go Go.RowKit Go.Words Go.Mesh

set_option maxRecDepth 40000 in
set_option maxHeartbeats 2000000 in
theorem refseeds_calls {w : World} {B : Nat} {sv : Value} {N : Int} {T : List T3} (hT : Sl 3 RTri w B sv T) (hB0 : B ≤ w.heap.size) (hs : Surf N T) (most : Int) :
    Calls Try.prog 15 #[.agg #[.int .i64 N, sv], .int .i64 most] w fun e w' => (∃ r, e = .returned r ∧ Sl 1 RInt w' w'.heap.size r ((seedsOf T most).map fun n : Nat => (n : Int))) ∧ Below w.heap.size w w' := by
  obtain ⟨A, cap, rfl, hcap⟩ := hT.form
  have hfew := hs.tmax
  have hfar := fun wz (hz : Below w.heap.size w wz) lv B2 S h1 h2 h3 h4 => reffar_calls (N := N) (S := S) (lv := lv) (B2 := B2) (hT.below keeps_tri (hz.mono hB0)) (by have := hz.size; omega) hs h1 h2 h3 h4
  have hbox := Bk.new w 24 [.int .i64 N, .slice A T.length cap]
  have hb1' := (Below.refl w.heap.size w).alloc (Nat.le_refl _) (.cells #[.int .i64 N, .slice A T.length cap] 24)
  have c0 := hbox.cell 0
  have c1 := hbox.cell 1
  simp only [List.getElem?_cons_zero, List.getElem?_cons_succ] at c0 c1
  have hz0 : (w.alloc (.cells #[.int .i64 N, .slice A T.length cap] 24)).heap.size = w.heap.size + 1 := by simp
  generalize hw0 : w.alloc (.cells #[.int .i64 N, .slice A T.length cap] 24) = w0 at *
  by_cases h0 : T.length = 0
  case pos =>
    have hz0 : ((T.length : Int) == 0) = true := by rw [h0]; rfl
    have hso : seedsOf T most = [] := by unfold seedsOf; rw [if_pos (.inl h0)]
    rw [hso]
    clear h0
    have HhT := Lib.hid hT; clear hT; have Hhfar := Lib.hid hfar; clear hfar; have Hhs := Lib.hid hs; clear hs; have Hhso := Lib.hid hso; clear hso; have Hhbox := Lib.hid hbox; clear hbox
    go_enter Try.func15, Try.ntmps15
    go_wp2_with fail
    go_ret
    exact ⟨⟨_, rfl, Sl.nil _ _⟩, hb1'⟩
  case neg =>
    have hz0' : ((T.length : Int) == 0) = false := by rw [beq_eq_false_iff_ne]; omega
    by_cases h1 : most < 1
    case pos =>
      have hso : seedsOf T most = [] := by unfold seedsOf; rw [if_pos (.inr h1)]
      rw [hso]
      have HhT := Lib.hid hT; clear hT; have Hhfar := Lib.hid hfar; clear hfar; have Hhs := Lib.hid hs; clear hs; have Hhso := Lib.hid hso; clear hso; have Hhbox := Lib.hid hbox; clear hbox
      go_enter Try.func15, Try.ntmps15
      go_wp2_with fail
      go_ret
      exact ⟨⟨_, rfl, Sl.nil _ _⟩, hb1'⟩
    case neg =>
      obtain ⟨L, hL1, hL2⟩ : ∃ L : Nat, seedsOf T most = seedsL T L ∧ L + 1 = min most.toNat (min 256 T.length) := by
        refine ⟨min most.toNat (min 256 T.length) - 1, ?_, by omega⟩
        unfold seedsOf
        rw [if_neg (by omega)]
      have hLT : L < T.length := by omega
      have hLm : (L : Int) + 1 ≤ most ∧ (L : Int) + 1 ≤ 256 := by omega
      have hLe : (L : Int) + 1 < most → (L : Int) + 1 < 256 → L + 1 = T.length := by omega
      rw [hL1]
      have hok := fun m (hm : m < T.length) => hs.seeds_ok (by omega) m hm
      have hsu := fun m (hm : m + 1 < T.length) => hs.seeds_succ (by omega) hm
      have hpd := hs.pick_done (m := L)
      have hdl := distL_len T
      have hone := own_one (w := w0) (base := w0.heap.size) (e := 3) (.int .i64 0) (Nat.le_refl _)
      have hb2 := (Below.refl w0.heap.size w0).alloc (Nat.le_refl _) (.cells #[.int .i64 0] 3)
      clear hL1 hL2
      have HhT := Lib.hid hT; clear hT; have Hhfar := Lib.hid hfar; clear hfar; have Hhs := Lib.hid hs; clear hs; have Hhok := Lib.hid hok; clear hok; have Hhsu := Lib.hid hsu; clear hsu; have Hhpd := Lib.hid hpd; clear hpd; have Hhdl := Lib.hid hdl; clear hdl; have Hhone := Lib.hid hone; clear hone; have Hhbox := Lib.hid hbox; clear hbox; have HhLe := Lib.hid hLe; clear hLe
      go_enter Try.func15, Try.ntmps15
      go_wp2_with fail
      clear hw0
      go_loopw [5] (fun rv wr => ∃ m : Nat, m ≤ L ∧ wr.ownsRow w0.heap.size 3 1 rv (m + 1) (nvals (seedsL T m)) ∧ Below w0.heap.size w0 wr) (fun rv _ => L + 1 - lenV rv)
      case atStart => exact ⟨0, by omega, by rw [← hz0]; exact Hhone.out, hb2⟩
      case round =>
        obtain ⟨m, hm, hown, hbel⟩ := hrel
        obtain ⟨w1, hw1⟩ : ∃ w1, w1 = wr := ⟨_, rfl⟩
        subst hw1
        obtain ⟨A1, cap1, rfl, hc1⟩ := own_form hown
        obtain ⟨hsl, hsnd, hslt⟩ := Hhok.out m (by omega)
        have hbelw : Below w.heap.size w w1 := hb1'.trans (hbel.mono (by omega))
        have hsl1 := sl_nvals (l := seedsL T m) (by rw [hsl]; exact hown)
        by_cases hmo : (m : Int) + 1 < most
        · by_cases h25 : (m : Int) + 1 < 256
          · have bx := Hhbox.out.below hbel (by omega)
            have bx0 := bx.cell 0
            have bx1 := bx.cell 1
            simp only [List.getElem?_cons_zero, List.getElem?_cons_succ] at bx0 bx1
            have hfa := Hhfar.out w1 hbelw _ _ (seedsL T m) hsl1 (Nat.le_refl _) hslt (by omega)
            have hdl1 := Hhdl.out (seedsL T m)
            have hpb : (m < L ∧ ∃ b, pick (distL T (seedsL T m)) T.length = some b ∧ b < T.length ∧ nvals (seedsL T m) ++ [.int .i64 (b : Int)] = nvals (seedsL T (m + 1))) ∨ (m = L ∧ pick (distL T (seedsL T m)) T.length = none) := by
              by_cases hmL : m < L
              · obtain ⟨b, h1, h2, _⟩ := Hhsu.out m (by omega)
                exact .inl ⟨hmL, b, h1, (pick_is h1).1, by rw [h2]; unfold nvals; rw [List.map_append]; rfl⟩
              · obtain rfl : m = L := by omega
                exact .inr ⟨rfl, Hhpd.out (HhLe.out hmo h25)⟩
            have Hhown := Lib.hid hown; clear hown; have Hhsl1 := Lib.hid hsl1; clear hsl1; have Hhfa := Lib.hid hfa; clear hfa; have Hhpb := Lib.hid hpb; clear hpb; have Hhdl1 := Lib.hid hdl1; clear hdl1; have Hhsl := Lib.hid hsl; clear hsl; have Hhsnd := Lib.hid hsnd; clear hsnd; have Hhslt := Lib.hid hslt; clear hslt; have Hbx := Lib.hid bx; clear bx
            go_wp2_with fail
            refine Hhfa.out.mono ?_
            rintro e w3 ⟨⟨gs, rfl, hks, hgs⟩, hb3⟩
            have hz3 := hb3.size
            have hown3 := own_below Hhown.out hb3 (Nat.le_refl _)
            have hbel3 := hbel.trans (hb3.mono hbel.size)
            have hat : ∀ k : Nat, k < T.length → w3.cell? ⟨gs, k, none⟩ = some (.int .i64 ((distL T (seedsL T m)).getD k 0)) := fun k hk => by
              obtain ⟨d, hd⟩ : ∃ d, (distL T (seedsL T m))[k]? = some d := ⟨_, List.getElem?_eq_getElem (by rw [Hhdl1.out]; exact hk)⟩
              rw [hks.cell k, ivals_at hd, getD_of hd]
            have hpk := fun k b (h9 : pick (distL T (seedsL T m)) k = some b) => (pick_is h9).1
            have hst1 := fun k => pick_skip (st := distL T (seedsL T m)) (k := k)
            have hst2 := fun k => pick_first (st := distL T (seedsL T m)) (k := k)
            have hst3 := fun k b => pick_more (st := distL T (seedsL T m)) (k := k) (b := b)
            have hst4 := fun k b => pick_less (st := distL T (seedsL T m)) (k := k) (b := b)
            have hpb := Hhpb.out
            have hsl1' := Hhsl1.out
            generalize distL T (seedsL T m) = st at *
            have Hhown3 := Lib.hid hown3; clear hown3; have Hhat := Lib.hid hat; clear hat; have Hhpk := Lib.hid hpk; clear hpk; have Hhst1 := Lib.hid hst1; clear hst1; have Hhst2 := Lib.hid hst2; clear hst2; have Hhst3 := Lib.hid hst3; clear hst3; have Hhst4 := Lib.hid hst4; clear hst4; have Hhpb := Lib.hid hpb; clear hpb; have Hhks := Lib.hid hks; clear hks; have Hhsl1' := Lib.hid hsl1'; clear hsl1'
            go_wp2_with fail
            go_loopw [7, 8] (fun bv iv wr => ∃ k : Nat, k ≤ T.length ∧ iv = .int .i64 (k : Int) ∧ bv = .int .i64 (optI (pick st k)) ∧ Below w3.heap.size w3 wr) (fun _ iv _ => T.length - (intOf iv).toNat)
            case atStart => exact ⟨0, by omega, rfl, rfl, Below.refl _ _⟩
            case round =>
              obtain ⟨k, hk, rfl, rfl, hbr⟩ := hrel
              have hgl := Hhks.out.lt
              by_cases hkl : k < T.length
              · have ck := (hbr.cell (p := ⟨gs, k, none⟩) hgl).trans (Hhat.out k hkl)
                have hki : (k : Int) < (T.length : Int) := by omega
                have hsk := Hhst1.out k
                have hsf := Hhst2.out k
                have hsm := fun b => Hhst3.out k b
                have hsl4 := fun b => Hhst4.out k b
                generalize hsx : st.getD k 0 = sx at *
                by_cases hz : sx = 0
                · have hp := hsk hz
                  have Hhsk := Lib.hid hsk; clear hsk; have Hhsf := Lib.hid hsf; clear hsf; have Hhsm := Lib.hid hsm; clear hsm; have Hhsl4 := Lib.hid hsl4; clear hsl4; have Hhp := Lib.hid hp; clear hp; have Hhsx := Lib.hid hsx; clear hsx
                  go_wp2_with fail
                  exact ⟨⟨k + 1, by omega, by simp, by rw [Hhp.out], hbr⟩, by simp [intOf]; omega⟩
                · cases hpc : pick st k with
                  | none =>
                    have hp := hsf hz hpc
                    have Hhsk := Lib.hid hsk; clear hsk; have Hhsf := Lib.hid hsf; clear hsf; have Hhsm := Lib.hid hsm; clear hsm; have Hhsl4 := Lib.hid hsl4; clear hsl4; have Hhp := Lib.hid hp; clear hp; have Hhpc := Lib.hid hpc; clear hpc; have Hhsx := Lib.hid hsx; clear hsx
                    simp only [optI]
                    go_wp2_with fail
                    refine Go.Canon.wp_region_text mixed (by kernel_rfl) ?_
                    go_wp2_with fail
                    refine Go.Canon.chk (by rfl) ?_
                    go_wp2_with fail
                    exact ⟨⟨k + 1, by omega, by simp, by rw [Hhp.out], hbr.drew⟩, by simp [intOf]; omega⟩
                  | some c =>
                    have hcl := Hhpk.out k c hpc
                    have cc := (hbr.cell (p := ⟨gs, c, none⟩) hgl).trans (Hhat.out c (by omega))
                    have hci : (c : Int) < (T.length : Int) := by omega
                    have hsm := hsm c hz hpc
                    have hsl4 := hsl4 c hz hpc
                    generalize st.getD c 0 = sc at *
                    simp only [optI]
                    by_cases hfb : 0 ≤ sc ∧ (sx < 0 ∨ sc < sx)
                    · have hp := hsm hfb
                      obtain ⟨hf0, hf1⟩ := hfb
                      by_cases hx0 : sx < 0
                      · have Hhsk := Lib.hid hsk; clear hsk; have Hhsf := Lib.hid hsf; clear hsf; have Hhpc := Lib.hid hpc; clear hpc; have Hhsx := Lib.hid hsx; clear hsx; have Hhsm := Lib.hid hsm; clear hsm; have Hhsl4 := Lib.hid hsl4; clear hsl4; have Hhp := Lib.hid hp; clear hp; have Hhf1 := Lib.hid hf1; clear hf1
                        go_wp2_with fail
                        refine Go.Canon.wp_region_text mixed (by kernel_rfl) ?_
                        go_wp2_with fail
                        refine Go.Canon.chk (by rfl) ?_
                        go_wp2_with fail
                        exact ⟨⟨k + 1, by omega, by simp, by rw [Hhp.out], hbr.drew⟩, by simp [intOf]; omega⟩
                      · have hf1 := hf1.resolve_left hx0
                        have Hhsk := Lib.hid hsk; clear hsk; have Hhsf := Lib.hid hsf; clear hsf; have Hhpc := Lib.hid hpc; clear hpc; have Hhsx := Lib.hid hsx; clear hsx; have Hhsm := Lib.hid hsm; clear hsm; have Hhsl4 := Lib.hid hsl4; clear hsl4; have Hhp := Lib.hid hp; clear hp
                        go_wp2_with fail
                        refine Go.Canon.wp_region_text mixed (by kernel_rfl) ?_
                        go_wp2_with fail
                        refine Go.Canon.chk (by rfl) ?_
                        go_wp2_with fail
                        exact ⟨⟨k + 1, by omega, by simp, by rw [Hhp.out], hbr.drew⟩, by simp [intOf]; omega⟩
                    · have hp := hsl4 hfb
                      by_cases hf0 : 0 ≤ sc
                      · have hx0 : ¬ sx < 0 := fun h => hfb ⟨hf0, .inl h⟩
                        have hx1 : ¬ sc < sx := fun h => hfb ⟨hf0, .inr h⟩
                        have hx2 : sx ≤ sc := by omega
                        have hx3 : 0 ≤ sx := by omega
                        have Hhsk := Lib.hid hsk; clear hsk; have Hhsf := Lib.hid hsf; clear hsf; have Hhpc := Lib.hid hpc; clear hpc; have Hhsx := Lib.hid hsx; clear hsx; have Hhsm := Lib.hid hsm; clear hsm; have Hhsl4 := Lib.hid hsl4; clear hsl4; have Hhp := Lib.hid hp; clear hp; have Hhfb := Lib.hid hfb; clear hfb
                        go_wp2_with fail
                        refine Go.Canon.wp_region_text mixed (by kernel_rfl) ?_
                        go_wp2_with fail
                        refine Go.Canon.chk (by rfl) ?_
                        go_wp2_with fail
                        exact ⟨⟨k + 1, by omega, by simp, by rw [Hhp.out], hbr.drew⟩, by simp [intOf]; omega⟩
                      · have Hhsk := Lib.hid hsk; clear hsk; have Hhsf := Lib.hid hsf; clear hsf; have Hhpc := Lib.hid hpc; clear hpc; have Hhsx := Lib.hid hsx; clear hsx; have Hhsm := Lib.hid hsm; clear hsm; have Hhsl4 := Lib.hid hsl4; clear hsl4; have Hhp := Lib.hid hp; clear hp; have Hhfb := Lib.hid hfb; clear hfb
                        go_wp2_with fail
                        refine Go.Canon.wp_region_text mixed (by kernel_rfl) ?_
                        go_wp2_with fail
                        refine Go.Canon.chk (by rfl) ?_
                        go_wp2_with fail
                        exact ⟨⟨k + 1, by omega, by simp, by rw [Hhp.out], hbr.drew⟩, by simp [intOf]; omega⟩
              · obtain rfl : k = T.length := by omega
                have hown4 := own_below Hhown3.out hbr (Nat.le_refl _)
                have hbel4 := hbel3.trans (hbr.mono hbel3.size)
                rcases Hhpb.out with ⟨hmL, b, hb1, hb2, hnv⟩ | ⟨hmL, hb1⟩
                · rw [hb1]
                  simp only [optI]
                  have hz31 := hbel4.size
                  clear Hhpb
                  have Hhb1 := Lib.hid hb1; clear hb1; have Hhnv := Lib.hid hnv; clear hnv; have Hhown4 := Lib.hid hown4; clear hown4
                  go_wp2_with (at_builtin; refine append_block _ rfl (.tmp 71) (.tmp 73) 28 rfl w0.heap.size info_int Try.underlying28 rfl (by decide) _ (m + 1) (nvals (seedsL T m)) rfl (Hhown4.out.alloc _) wr.heap.size [.int .i64 (b : Int)] rfl (Bk.new _ _ _) rfl (by simp [Value.oneCell']) (by omega) (by omega) (by simp; omega) ?_; intro v1 w5 hown5 hb5 _ _; obtain ⟨g9, cap9, rfl⟩ := ownsRow_succ hown5; have Hhown5 := Lib.hid hown5; clear hown5)
                  exact ⟨⟨m + 1, by omega, by rw [← Hhnv.out]; exact Hhown5.out, (hbel4.alloc hz31 _).trans hb5⟩, by simp [lenV]; omega⟩
                · rw [hb1]
                  simp only [optI]
                  obtain rfl := hmL
                  have hsl9 := sl_nvals (l := seedsL T m) (by rw [Hhsl.out]; exact hown4)
                  have hbw9 := hb1'.trans (hbel4.mono (by omega))
                  clear Hhpb hb1
                  have Hhsl9 := Lib.hid hsl9; clear hsl9; have Hhown4 := Lib.hid hown4; clear hown4
                  go_wp2_with fail
                  go_ret
                  exact ⟨⟨_, rfl, Hhsl9.out⟩, hbw9⟩
          · obtain rfl : m = L := by omega
            have Hhown := Lib.hid hown; clear hown; have Hhsl1 := Lib.hid hsl1; clear hsl1; have Hhsl := Lib.hid hsl; clear hsl; have Hhsnd := Lib.hid hsnd; clear hsnd; have Hhslt := Lib.hid hslt; clear hslt
            go_wp2_with fail
            go_ret
            exact ⟨⟨_, rfl, by have := Hhsl1.out; exact this⟩, hbelw⟩
        · obtain rfl : m = L := by omega
          have Hhown := Lib.hid hown; clear hown; have Hhsl1 := Lib.hid hsl1; clear hsl1; have Hhsl := Lib.hid hsl; clear hsl; have Hhsnd := Lib.hid hsnd; clear hsnd; have Hhslt := Lib.hid hslt; clear hslt
          go_wp2_with fail
          go_ret
          exact ⟨⟨_, rfl, by have := Hhsl1.out; exact this⟩, hbelw⟩
end Go.Proofs.Ytpmmjjbllmeneaa
