/- Walks: bay's Seeds. -/
import Derived.Test.YtpmmjjbllmeneaaDF
import Derived.Shelf.Bits.Mul64
namespace Go.Mesh
section
variable {N : Int} {T : List T3}
theorem nat_mem {l : List Nat} {x : Nat} : (x : Int) ∈ l.map (fun n : Nat => (n : Int)) ↔ x ∈ l := by
  rw [List.mem_map]
  constructor
  · rintro ⟨y, h1, h2⟩
    have : y = x := by omega
    rw [← this]; exact h1
  · intro h; exact ⟨x, h, rfl⟩
theorem pick_skip {st : List Int} {k : Nat} (h : st.getD k 0 = 0) : pick st (k + 1) = pick st k := by rw [pick, if_pos h]
theorem pick_first {st : List Int} {k : Nat} (h : st.getD k 0 ≠ 0) (hp : pick st k = none) : pick st (k + 1) = some k := by rw [pick, if_neg h, hp]
theorem pick_more {st : List Int} {k b : Nat} (h : st.getD k 0 ≠ 0) (hp : pick st k = some b) (hf : 0 ≤ st.getD b 0 ∧ (st.getD k 0 < 0 ∨ st.getD b 0 < st.getD k 0)) : pick st (k + 1) = some k := by rw [pick, if_neg h, hp]; simp only []; rw [if_pos hf]
theorem pick_less {st : List Int} {k b : Nat} (h : st.getD k 0 ≠ 0) (hp : pick st k = some b) (hf : ¬ (0 ≤ st.getD b 0 ∧ (st.getD k 0 < 0 ∨ st.getD b 0 < st.getD k 0))) : pick st (k + 1) = some b := by rw [pick, if_neg h, hp]; simp only []; rw [if_neg hf]
end
end Go.Mesh
namespace Go.Proofs.Ytpmmjjbllmeneaa
open Go Go.RowKit Go.Words Go.Mesh

/-- How long a slice is. -/
def lenV : Value → Nat
  | .slice _ n _ => n
  | _ => 0
theorem bmul_calls (x y : Nat) (w : World) (hx : x < 18446744073709551616) (hy : y < 18446744073709551616) : Calls Try.prog 42 #[.int .u64 (x : Int), .int .u64 (y : Int)] w fun e w' => e = .returned (.tuple #[.int .u64 ((x * y / 18446744073709551616 : Nat) : Int), .int .u64 ((x * y % 18446744073709551616 : Nat) : Int)]) ∧ w' = w :=
  Any.bits_Mul Try.bitsMul x y hx hy w
theorem tab_tris {w : World} {B : Nat} {tv : Value} {N : Int} {T : List T3} (h : Tab w B tv N T) : Calls Try.prog 24 #[tv] w fun e w' => e = .returned (.int .i64 T.length) ∧ w' = w := by
  obtain ⟨g, vt, gm, vf, m, F, rfl, htab, _⟩ := h
  exact triangles_calls htab
theorem far_calls {w : World} {B B2 : Nat} {tv sv : Value} {N : Int} {T : List T3} {S : List Nat} (h : Tab w B tv N T) (hs : Surf N T) (hB : B2 ≤ w.heap.size) (hS : Sl 1 RInt w B2 sv (S.map fun n : Nat => (n : Int))) (hSl : ∀ s ∈ S, s < T.length) (hSn : S.length ≤ 1000000) :
    Calls Try.prog 25 #[tv, sv] w fun e w' => FarOut w w' T S e ∧ Below w.heap.size w w' :=
  far_calls0 bmul_calls hs (fun wz hz => tab_tris (h.below hz h.le)) (fun wz c hz hc => by
    have := opp_calls (h.below hz h.le) hs (c : Int)
    rw [tOpp_at hc] at this
    exact this) hB hS hSl hSn
set_option maxRecDepth 40000 in
set_option maxHeartbeats 2000000 in
theorem seeds_calls {w : World} {B : Nat} {tv : Value} {N : Int} {T : List T3} (h : Tab w B tv N T) (hs : Surf N T) (most : Int) :
    Calls Try.prog 13 #[tv, .int .i64 most] w fun e w' => (∃ r, e = .returned r ∧ w'.ownsRow w.heap.size 3 1 r (seedsOf T most).length (nvals (seedsOf T most))) ∧ Below w.heap.size w w' := by
  have htr := fun wz (hz : Below w.heap.size w wz) => tab_tris (h.below hz h.le)
  have hfar := fun wz (hz : Below w.heap.size w wz) sv B2 S h1 h2 h3 h4 => far_calls (S := S) (sv := sv) (B2 := B2) (h.below hz h.le) hs h1 h2 h3 h4
  obtain ⟨g, rfl⟩ : ∃ g, tv = .pointer (some ⟨g, 0, none⟩) := by
    obtain ⟨g, _, _, _, _, _, rfl, _⟩ := h
    exact ⟨_, rfl⟩
  have hfew := hs.tmax
  by_cases h0 : T.length = 0
  case pos =>
    have hz0 : ((T.length : Int) == 0) = true := by rw [h0]; rfl
    have hso : seedsOf T most = [] := by unfold seedsOf; rw [if_pos (.inl h0)]
    rw [hso]
    clear h0
    have Hh := Lib.hid h; clear h; have Hhtr := Lib.hid htr; clear htr; have Hhfar := Lib.hid hfar; clear hfar; have Hhs := Lib.hid hs; clear hs; have Hhso := Lib.hid hso; clear hso
    go_enter Try.func13, Try.ntmps13
    go_wp2_with fail
    refine (Hhtr.out w (Below.refl _ _)).mono ?_
    rintro e w' ⟨rfl, rfl⟩
    go_wp2_with fail
    go_ret
    exact ⟨⟨_, rfl, World.ownsRow_nil _ _ _ _⟩, Below.refl _ _⟩
  case neg =>
    have hz0 : ((T.length : Int) == 0) = false := by rw [beq_eq_false_iff_ne]; omega
    by_cases h1 : most < 1
    case pos =>
      have hso : seedsOf T most = [] := by unfold seedsOf; rw [if_pos (.inr h1)]
      rw [hso]
      have Hh := Lib.hid h; clear h; have Hhtr := Lib.hid htr; clear htr; have Hhfar := Lib.hid hfar; clear hfar; have Hhs := Lib.hid hs; clear hs; have Hhso := Lib.hid hso; clear hso
      go_enter Try.func13, Try.ntmps13
      go_wp2_with fail
      refine (Hhtr.out w (Below.refl _ _)).mono ?_
      rintro e w' ⟨rfl, rfl⟩
      go_wp2_with fail
      go_ret
      exact ⟨⟨_, rfl, World.ownsRow_nil _ _ _ _⟩, Below.refl _ _⟩
    case neg =>
      obtain ⟨L, hL1, hL2⟩ : ∃ L : Nat, seedsOf T most = seedsL T L ∧ L + 1 = min most.toNat (min 256 T.length) := by
        refine ⟨min most.toNat (min 256 T.length) - 1, ?_, by omega⟩
        unfold seedsOf
        rw [if_neg (by omega)]
      have hmin : (if (T.length : Int) < (if 256 < most then 256 else most) then (T.length : Int) else if 256 < most then 256 else most) = (L : Int) + 1 := by
        split <;> split <;> omega
      have hLT : L < T.length := by omega
      rw [hL1]
      have hok := fun m (hm : m < T.length) => hs.seeds_ok (by omega) m hm
      have hsu := fun m (hm : m + 1 < T.length) => hs.seeds_succ (by omega) hm
      have hdm := fun (S : List Nat) (hS : ∀ s ∈ S, s < T.length) x hx => hs.dist_mem (S := S) hS (x := x) hx
      have hdl := distL_len T
      clear hL1 hL2
      have Hh := Lib.hid h; clear h; have Hhtr := Lib.hid htr; clear htr; have Hhfar := Lib.hid hfar; clear hfar; have Hhs := Lib.hid hs; clear hs; have Hhok := Lib.hid hok; clear hok; have Hhsu := Lib.hid hsu; clear hsu; have Hhdm := Lib.hid hdm; clear hdm; have Hhdl := Lib.hid hdl; clear hdl
      go_enter Try.func13, Try.ntmps13
      go_wp2_with fail
      refine (Hhtr.out w (Below.refl _ _)).mono ?_
      rintro e w' ⟨rfl, rfl⟩
      have hone := own_one (w := w') (base := w'.heap.size) (e := 3) (.int .i64 0) (Nat.le_refl _)
      have hb0 := (Below.refl w'.heap.size w').alloc (Nat.le_refl _) (.cells #[.int .i64 0] 3)
      have Hhone := Lib.hid hone; clear hone
      go_wp2_with fail
      go_loopw [5] (fun rv wr => ∃ m : Nat, m ≤ L ∧ wr.ownsRow w'.heap.size 3 1 rv (m + 1) (nvals (seedsL T m)) ∧ Below w'.heap.size w' wr) (fun rv _ => L + 1 - lenV rv)
      case atStart => exact ⟨0, by omega, Hhone.out, hb0⟩
      case round =>
        obtain ⟨m, hm, hown, hbel⟩ := hrel
        obtain ⟨w1, hw1⟩ : ∃ w1, w1 = wr := ⟨_, rfl⟩
        subst hw1
        obtain ⟨A1, cap1, rfl, hc1⟩ := own_form hown
        obtain ⟨hsl, hsnd, hslt⟩ := Hhok.out m (by omega)
        have htr1 := Hhtr.out w1 hbel
        by_cases hmL : m < L
        · have hsl1 := sl_nvals (l := seedsL T m) (by rw [hsl]; exact hown)
          have hfa := Hhfar.out w1 hbel _ _ (seedsL T m) (Nat.le_refl _) hsl1 hslt (by omega)
          obtain ⟨b, hpb, hsb, hbn⟩ := Hhsu.out m (by omega)
          have hdm1 := Hhdm.out _ hslt
          have hdl1 := Hhdl.out (seedsL T m)
          have hbl := (pick_is hpb).1
          have hnv : nvals (seedsL T m) ++ [.int .i64 (b : Int)] = nvals (seedsL T (m + 1)) := by rw [hsb]; unfold nvals; rw [List.map_append]; rfl
          generalize seedsL T m = S at *
          have Hhown := Lib.hid hown; clear hown; have Hhsl1 := Lib.hid hsl1; clear hsl1; have Hhfa := Lib.hid hfa; clear hfa; have Hhpb := Lib.hid hpb; clear hpb; have Hhsb := Lib.hid hsb; clear hsb; have Hhbn := Lib.hid hbn; clear hbn; have Hhdm1 := Lib.hid hdm1; clear hdm1; have Hhdl1 := Lib.hid hdl1; clear hdl1; have Hhsl := Lib.hid hsl; clear hsl; have Hhsnd := Lib.hid hsnd; clear hsnd; have Hhslt := Lib.hid hslt; clear hslt; have Hhtr1 := Lib.hid htr1; clear htr1; have Hhnv := Lib.hid hnv; clear hnv
          go_wp2_with fail
          refine Hhtr1.out.mono ?_
          rintro e w2 ⟨rfl, rfl⟩
          go_wp2_with fail
          refine Hhfa.out.mono ?_
          rintro e w3 ⟨⟨gs, gn, rfl, hks, -, hgs, -⟩, hb3⟩
          have hz3 := hb3.size
          have hsl3 := Hhsl1.out.keep keeps_int hb3 hz3
          have hown3 := own_below Hhown.out hb3 (Nat.le_refl _)
          have hbel3 := hbel.trans (hb3.mono hbel.size)
          have hmem : ∀ k : Nat, k < T.length → decide ((k : Int) ∈ S.map (fun n : Nat => (n : Int))) = decide ((distL T S).getD k 0 = 0) := fun k hk => by
            rw [decide_eq_decide, nat_mem]; exact (Hhdm1.out k hk).symm
          have hat : ∀ k : Nat, k < T.length → w3.cell? ⟨gs, k, none⟩ = some (.int .i64 ((distL T S).getD k 0)) := fun k hk => by
            obtain ⟨d, hd⟩ : ∃ d, (distL T S)[k]? = some d := ⟨_, List.getElem?_eq_getElem (by rw [Hhdl1.out]; exact hk)⟩
            rw [hks.cell k, ivals_at hd, getD_of hd]
          have hpk := fun k b (h9 : pick (distL T S) k = some b) => (pick_is h9).1
          have hst1 := fun k => pick_skip (st := distL T S) (k := k)
          have hst2 := fun k => pick_first (st := distL T S) (k := k)
          have hst3 := fun k b => pick_more (st := distL T S) (k := k) (b := b)
          have hst4 := fun k b => pick_less (st := distL T S) (k := k) (b := b)
          have hpb := Hhpb.out
          generalize distL T S = st at *
          have Hhsl3 := Lib.hid hsl3; clear hsl3; have Hhown3 := Lib.hid hown3; clear hown3; have Hhmem := Lib.hid hmem; clear hmem; have Hhat := Lib.hid hat; clear hat; have Hhpk := Lib.hid hpk; clear hpk; have Hhst1 := Lib.hid hst1; clear hst1; have Hhst2 := Lib.hid hst2; clear hst2; have Hhst3 := Lib.hid hst3; clear hst3; have Hhst4 := Lib.hid hst4; clear hst4; have Hhpb := Lib.hid hpb; clear hpb; have Hhks := Lib.hid hks; clear hks
          go_wp2_with fail
          go_loopw [8, 38] (fun bv iv wr => ∃ k : Nat, k ≤ T.length ∧ iv = .int .i64 (k : Int) ∧ bv = .int .i64 (optI (pick st k)) ∧ wr = w3) (fun _ iv _ => T.length - (intOf iv).toNat)
          case atStart => exact ⟨0, by omega, rfl, rfl, rfl⟩
          case round =>
            obtain ⟨k, hk, rfl, rfl, rfl⟩ := hrel
            by_cases hkl : k < T.length
            · have ck := Hhat.out k hkl
              have hco := contains_calls Hhsl3.out (by rw [List.length_map, Hhsl.out]; omega) (k : Int)
              rw [Hhmem.out k hkl] at hco
              have hki : (k : Int) < (T.length : Int) := by omega
              have hsk := Hhst1.out k
              have hsf := Hhst2.out k
              have hsm := fun b => Hhst3.out k b
              have hsl4 := fun b => Hhst4.out k b
              generalize hsx : st.getD k 0 = sx at *
              by_cases hz : sx = 0
              · rw [decide_eq_true hz] at hco
                have hp := hsk hz
                have Hhco := Lib.hid hco; clear hco; have Hhsk := Lib.hid hsk; clear hsk; have Hhsf := Lib.hid hsf; clear hsf; have Hhsm := Lib.hid hsm; clear hsm; have Hhsl4 := Lib.hid hsl4; clear hsl4; have Hhp := Lib.hid hp; clear hp; have Hhsx := Lib.hid hsx; clear hsx; have Hhz := Lib.hid hz; clear hz
                go_wp2_with fail
                refine Hhco.out.mono ?_
                rintro e w4 ⟨rfl, rfl⟩
                go_wp2_with fail
                exact ⟨⟨k + 1, by omega, by simp, by rw [Hhp.out], by trivial⟩, by simp [intOf]; omega⟩
              · rw [decide_eq_false hz] at hco
                cases hpc : pick st k with
                | none =>
                  have hp := hsf hz hpc
                  have Hhco := Lib.hid hco; clear hco; have Hhsk := Lib.hid hsk; clear hsk; have Hhsf := Lib.hid hsf; clear hsf; have Hhsm := Lib.hid hsm; clear hsm; have Hhsl4 := Lib.hid hsl4; clear hsl4; have Hhp := Lib.hid hp; clear hp; have Hhpc := Lib.hid hpc; clear hpc; have Hhsx := Lib.hid hsx; clear hsx; have Hhz := Lib.hid hz; clear hz
                  simp only [optI]
                  go_wp2_with fail
                  refine Hhco.out.mono ?_
                  rintro e w4 ⟨rfl, rfl⟩
                  go_wp2_with fail
                  exact ⟨⟨k + 1, by omega, by simp, by rw [Hhp.out], by trivial⟩, by simp [intOf]; omega⟩
                | some c =>
                  have hcl := Hhpk.out k c hpc
                  have cc := Hhat.out c (by omega)
                  have hci : (c : Int) < (T.length : Int) := by omega
                  have hfa2 := fun wz => farther_calls sx (st.getD c 0) wz
                  have hsm := hsm c hz hpc
                  have hsl4 := hsl4 c hz hpc
                  generalize st.getD c 0 = sc at *
                  have Hhco := Lib.hid hco; clear hco; have Hhsk := Lib.hid hsk; clear hsk; have Hhsf := Lib.hid hsf; clear hsf; have Hhpc := Lib.hid hpc; clear hpc; have Hhsx := Lib.hid hsx; clear hsx; have Hhz := Lib.hid hz; clear hz; have Hhfa2 := Lib.hid hfa2; clear hfa2
                  simp only [optI]
                  by_cases hfb : 0 ≤ sc ∧ (sx < 0 ∨ sc < sx)
                  · have hp := hsm hfb
                    have hfa3 := fun wz => (Hhfa2.out wz)
                    rw [decide_eq_true hfb] at hfa3
                    have Hhsm := Lib.hid hsm; clear hsm; have Hhsl4 := Lib.hid hsl4; clear hsl4; have Hhp := Lib.hid hp; clear hp; have Hhfa3 := Lib.hid hfa3; clear hfa3; have Hhfb := Lib.hid hfb; clear hfb
                    go_wp2_with fail
                    refine Hhco.out.mono ?_
                    rintro e w4 ⟨rfl, rfl⟩
                    go_wp2_with fail
                    refine (Hhfa3.out _).mono ?_
                    rintro e w5 ⟨rfl, rfl⟩
                    go_wp2_with fail
                    exact ⟨⟨k + 1, by omega, by simp, by rw [Hhp.out], by trivial⟩, by simp [intOf]; omega⟩
                  · have hp := hsl4 hfb
                    have hfa3 := fun wz => (Hhfa2.out wz)
                    rw [decide_eq_false hfb] at hfa3
                    have Hhsm := Lib.hid hsm; clear hsm; have Hhsl4 := Lib.hid hsl4; clear hsl4; have Hhp := Lib.hid hp; clear hp; have Hhfa3 := Lib.hid hfa3; clear hfa3; have Hhfb := Lib.hid hfb; clear hfb
                    go_wp2_with fail
                    refine Hhco.out.mono ?_
                    rintro e w4 ⟨rfl, rfl⟩
                    go_wp2_with fail
                    refine (Hhfa3.out _).mono ?_
                    rintro e w5 ⟨rfl, rfl⟩
                    go_wp2_with fail
                    exact ⟨⟨k + 1, by omega, by simp, by rw [Hhp.out], by trivial⟩, by simp [intOf]; omega⟩
            · obtain rfl : k = T.length := by omega
              rw [Hhpb.out]
              simp only [optI]
              have hz31 := hbel3.size
              go_wp2_with (at_builtin; refine append_block _ rfl (.tmp 58) (.tmp 60) 28 rfl w'.heap.size info_int Try.underlying28 rfl (by decide) _ (m + 1) (nvals S) rfl (Hhown3.out.alloc _) wr.heap.size [.int .i64 (b : Int)] rfl (Bk.new _ _ _) rfl (by simp [Value.oneCell']) (by omega) (by omega) (by simp; omega) ?_; intro v1 w5 hown5 hb5 _ _; obtain ⟨g9, cap9, rfl⟩ := ownsRow_succ hown5; have Hhown5 := Lib.hid hown5; clear hown5)
              exact ⟨⟨m + 1, by omega, by rw [← Hhnv.out]; exact Hhown5.out, (hbel3.alloc hz31 _).trans hb5⟩, by simp [lenV]; omega⟩
        · obtain rfl : m = L := by omega
          have Hhown := Lib.hid hown; clear hown; have Hhsl := Lib.hid hsl; clear hsl; have Hhsnd := Lib.hid hsnd; clear hsnd; have Hhslt := Lib.hid hslt; clear hslt; have Hhtr1 := Lib.hid htr1; clear htr1
          go_wp2_with fail
          refine Hhtr1.out.mono ?_
          rintro e w2 ⟨rfl, rfl⟩
          go_wp2_with fail
          go_ret
          exact ⟨⟨_, rfl, by rw [Hhsl.out]; exact Hhown.out⟩, hbel⟩
end Go.Proofs.Ytpmmjjbllmeneaa
