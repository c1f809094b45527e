/- The law BayNear, walked. -/
import Derived.Test.YtpmmjjbllmeneaaDI
import Derived.Test.YtpmmjjbllmeneaaApp
import Derived.Test.YtpmmjjbllmeneaaTU
namespace Go.Proofs.Ytpmmjjbllmeneaa
open Go Go.RowKit Go.Words Go.Mesh

theorem seeds_nil (most : Int) (w : World) : Calls Try.prog 13 #[.pointer none, .int .i64 most] w fun e w' => e = .returned (.slice none 0 0) ∧ w' = w := by
  go_enter Try.func13, Try.ntmps13
  go_wp2_with fail
  go_ret
  exact ⟨rfl, rfl⟩
theorem sl_cells {w : World} {B n cap : Nat} {A : Option Addr} {l : List Int} (h : Sl 1 RInt w B (.slice A n cap) l) : (A = none → n = 0) ∧ ∀ ad, A = some ad → ∀ j u, (ivals l)[j]? = some u → w.cell? (ad.add j) = some u := by
  obtain ⟨hn, _⟩ := h.len
  refine ⟨fun e => ?_, fun ad e j u hj => ?_⟩
  · subst e
    rcases Nat.eq_zero_or_pos n with h0 | h0
    · exact h0
    · obtain ⟨b, o, h1, _⟩ := h.int_at (k := 0) (by omega)
      cases h1
  · have hjl : j < l.length := by have := (List.getElem?_eq_some_iff.1 hj).1; unfold ivals at this; simpa using this
    obtain ⟨b, o, h1, _, h2⟩ := h.int_at hjl
    rw [e] at h1
    injection h1 with h1
    subst h1
    rw [Addr.add_lit, h2]
    unfold ivals at hj
    rw [List.getElem?_map, List.getElem?_eq_getElem hjl] at hj
    exact hj
theorem ivals_one (l : List Int) : ∀ u ∈ ivals l, u.oneCell' = true := fun u hu => by
  unfold ivals at hu
  obtain ⟨y, _, rfl⟩ := List.mem_map.1 hu
  rfl
theorem ivals_len (l : List Int) : (ivals l).length = l.length := List.length_map _
theorem growL_len {T : List T3} {l : List Int} (h : growE T l = 0) : (growL T l).length = T.length := by unfold growL; rw [if_pos h, nearL_len]
/-- Where bays grow, the seeds are triangles, each another one. -/
theorem grow_ok {T : List T3} {l : List Int} (h : growE T l = 0) : (∀ s ∈ l, 0 ≤ s ∧ s < T.length) ∧ l.Nodup ∧ (-1 : Int) ∉ nearL T (l.map Int.toNat) := by
  unfold growE at h
  split at h
  · cases h
  · cases hb : badE T.length l l.length with
    | some e =>
      rw [hb] at h
      simp only [] at h
      subst h
      exfalso
      have : ∀ k, badE T.length l k ≠ some 0 := fun k => by
        induction k with
        | zero => intro h9; cases h9
        | succ k ih =>
          unfold badE
          cases hbk : badE T.length l k with
          | some e => simp only []; rw [← hbk]; exact ih
          | none =>
            simp only []
            split
            · intro h9; cases h9
            · split
              · intro h9; cases h9
              · intro h9; cases h9
      exact this _ hb
    | none =>
      rw [hb] at h
      simp only [] at h
      obtain ⟨h1, h2⟩ := badE_none (Nat.le_refl _) hb
      rw [List.take_length] at h1 h2
      split at h
      · cases h
      · rename_i h3
        exact ⟨h1, h2, h3⟩
set_option maxRecDepth 100000 in
set_option maxHeartbeats 2000000 in
theorem near_law (sv : Value) (N : Int) (T : List T3) (lv : Value) (l : List Int) (more : Int) (w : World) {B : Nat} (hB0 : B ≤ w.heap.size) (hT : Sl 3 RTri w B sv T) (hN : I64 N) (hl : Sl 1 RInt w B lv l) (hmore : I64 more) :
    Calls Try.prog 8 #[.agg #[.int .i64 N, sv], lv, .int .i64 more] w fun e w' => e = .returned (.bool true) ∧ Below w.heap.size w w' := by
  obtain ⟨A9, cap9, rfl, hcap9⟩ := hl.form
  have Hhl := Lib.hid hl; clear hl
  obtain ⟨A, cap, rfl, hcap⟩ := hT.form
  have hb1 := (Below.refl w.heap.size w).alloc (Nat.le_refl _) (.cells #[.int .i64 N, .slice A T.length cap] 24)
  have hbox := Bk.new w 24 [.int .i64 N, .slice A T.length cap]
  have hTA := hT.below keeps_tri (hb1.mono hB0)
  have hbl := hbox.lt
  have c0 := hbox.cell 0
  have c1 := hbox.cell 1
  simp only [List.getElem?_cons_zero, List.getElem?_cons_succ] at c0 c1
  generalize hw0 : w.alloc (.cells #[.int .i64 N, .slice A T.length cap] 24) = w0 at *
  have haw := awake39_calls w0
  have hz0 := hb1.size
  have HhT := Lib.hid hT; have Hhbox := Lib.hid hbox; have HhTA := Lib.hid hTA; have Hhaw := Lib.hid haw; clear hT hbox hTA haw
  go_enter Try.func8, Try.ntmps8
  go_wp2_with fail
  clear hw0
  refine Hhaw.out.mono ?_
  rintro e w1 ⟨rfl, hb2⟩
  have hb3 := below_call hb1 hb2 hb1.size
  have d0 : w1.cell? ⟨w.heap.size, 0, none⟩ = some (.int .i64 N) := (hb2.cell (p := ⟨w.heap.size, 0, none⟩) hbl).trans c0
  have d1 : w1.cell? ⟨w.heap.size, 1, none⟩ = some (.slice A T.length cap) := (hb2.cell (p := ⟨w.heap.size, 1, none⟩) hbl).trans c1
  have hT1 := HhTA.out.below keeps_tri (hb2.mono (by omega))
  have hz1 := hb2.size
  have htb := table39_calls hT1 (by omega) hN
  have HhT1 := Lib.hid hT1; have Hhtb := Lib.hid htb; clear hT1 htb
  go_wp2_with fail
  refine Hhtb.out.mono ?_
  rintro e w2 ⟨⟨pv, B', rfl, hor⟩, hb4⟩
  have hb5 := below_call hb3 hb4 hb3.size
  have hz2 := hb4.size
  have e0 : w2.cell? ⟨w.heap.size, 0, none⟩ = some (.int .i64 N) := (hb4.cell (p := ⟨w.heap.size, 0, none⟩) (by show w.heap.size < _; omega)).trans d0
  have e1 : w2.cell? ⟨w.heap.size, 1, none⟩ = some (.slice A T.length cap) := (hb4.cell (p := ⟨w.heap.size, 1, none⟩) (by show w.heap.size < _; omega)).trans d1
  have hT2 := HhT1.out.below keeps_tri (hb4.mono (by omega))
  have hbw2 : w.heap.size < w2.heap.size := by omega
  have hB2 : B ≤ w2.heap.size := by omega
  have hw12 : Below w.heap.size w w1 := hb3
  clear c0 c1 d0 d1
  rcases hor with ⟨hsm, hs, htab⟩ | ⟨hno, rfl⟩
  case inr =>
    have HhT2 := Lib.hid hT2; have Hhno := Lib.hid hno; clear hT2 hno
    go_wp2_with fail
    go_ret
    exact ⟨rfl, hb5⟩
  obtain ⟨g, rfl⟩ : ∃ g, pv = .pointer (some ⟨g, 0, none⟩) := by
    obtain ⟨g, _, _, _, _, _, rfl, _⟩ := htab
    exact ⟨_, rfl⟩
  have hle := htab.le
  obtain ⟨h30, hN0, h60⟩ := hsm
  by_cases h20 : 20 < l.length
  case pos =>
    have h20i : 20 < (l.length : Int) := by omega
    clear h20
    have HhT2 := Lib.hid hT2; have Hhs := Lib.hid hs; have Hhtab := Lib.hid htab; clear hT2 hs htab
    go_wp2_with fail
    go_ret
    exact ⟨rfl, hb5⟩
  case neg =>
    have h20i : (l.length : Int) ≤ 20 := by omega
    have hl2 := Hhl.out.below keeps_int (hb5.mono hB0)
    have hgr := grow_calls htab hs hB2 hl2 (by omega)
    have HhT2 := Lib.hid hT2; have Hhs := Lib.hid hs; have Hhtab := Lib.hid htab; have Hhl2 := Lib.hid hl2; have Hhgr := Lib.hid hgr; clear hT2 hs htab hl2 hgr
    go_wp2_with fail
    refine Hhgr.out.mono ?_
    rintro e w3 ⟨⟨r3, rfl, hr3⟩, hb6⟩
    have hz3 := hb6.size
    have hb7 := below_call hb5 hb6 hb5.size
    obtain ⟨A3, cap3, rfl, hc3⟩ := hr3.form
    have hl3 := Hhl2.out.below keeps_int (hb6.mono (by omega))
    have hl3d := (hl3.below keeps_int ((Below.refl w3.heap.size w3).alloc (Nat.le_refl _) (.cells #[] 3) |>.mono (by omega)))
    obtain ⟨k1, k2⟩ := sl_cells hl3d
    have hown0 : (w3.alloc (.cells #[] 3)).ownsRow w3.heap.size 3 1 (.slice (some ⟨w3.heap.size, 0, none⟩) 0 0) 0 [] := World.ownsRow_lit (e := 3) (size := 1) w3 #[] 0 (Nat.le_refl _) (by unfold maxLen; omega) rfl
    have hgrow := fun wz r B2 (hz : Below w2.heap.size w2 wz) h1 h2 => grow_calls (l := l ++ [more]) (sv := r) (B2 := B2) (Hhtab.out.below (hz.mono hle) (Nat.le_refl _)) Hhs.out h1 h2 (by simp; omega)
    have hvl := ivals_len l
    have hv1 := ivals_one l
    have Hhr3 := Lib.hid hr3; clear hr3; have Hhl3 := Lib.hid hl3; clear hl3; have Hhl3d := Lib.hid hl3d; clear hl3d; have Hk1 := Lib.hid k1; clear k1; have Hk2 := Lib.hid k2; clear k2; have Hhown0 := Lib.hid hown0; clear hown0; have Hhgrow := Lib.hid hgrow; clear hgrow; have Hhvl := Lib.hid hvl; clear hvl; have Hhv1 := Lib.hid hv1; clear hv1
    go_wp2_with (first
      | (at_builtin; refine wpList_append_opt rfl (.tmp 32) (.tmp 33) 28 rfl w3.heap.size Try.underlying28 info_int rfl (by decide) _ 0 [] rfl Hhown0.out A9 l.length cap9 (ivals l) rfl (by rw [Hhvl.out]; omega) Hk1.out Hk2.out Hhv1.out (by omega) (by decide) (by simp) ?_; intro v1 w4 hown4 _ hb8 _; rw [Nat.zero_add, List.nil_append] at hown4; have hd4 : Below w3.heap.size w3 w4 := ((Below.refl w3.heap.size w3).alloc (Nat.le_refl _) _).trans hb8; obtain ⟨A4, cap4, rfl, -⟩ := own_form hown4; have hz4 := hd4.size; have Hhown4 := Lib.hid hown4; clear hown4; have Hhb8 := Lib.hid hb8; clear hb8)
      | (at_builtin; refine append_block _ rfl (.tmp 34) (.tmp 36) 28 rfl w3.heap.size info_int Try.underlying28 rfl (by decide) _ l.length (ivals l) rfl (Hhown4.out.alloc _) w4.heap.size [.int .i64 more] rfl (Bk.new _ _ _) rfl (by simp [Value.oneCell']) (by omega) (by omega) (by simp; omega) ?_; intro v1 w5 hown5 hb9 _ _; have hd5 : Below w3.heap.size w3 w5 := (hd4.alloc hz4 _).trans hb9; have Hhown5 := Lib.hid hown5; clear hown5; have Hhb9 := Lib.hid hb9; clear hb9))
    have hz5 := hd5.size
    have hd25 : Below w2.heap.size w2 w5 := hb6.trans (hd5.mono hz3)
    have hown5 : w5.ownsRow w3.heap.size 3 1 v1 (l ++ [more]).length (ivals (l ++ [more])) := by
      have := Hhown5.out
      unfold ivals at this ⊢
      rw [List.map_append, List.length_append]
      exact this
    refine (Hhgrow.out w5 v1 _ hd25 (Nat.le_refl _) (sl_ivals hown5)).mono ?_
    rintro e w6 ⟨⟨r6, rfl, hr6⟩, hb10⟩
    obtain ⟨A6, cap6, rfl, hc6⟩ := hr6.form
    have hb11 := below_call hb7 (hd5.trans (hb10.mono hz5)) hb7.size
    have hr36 := Hhr3.out.keep (B' := w6.heap.size) keeps_int (hd5.trans (hb10.mono hz5)) (by have := hb10.size; omega)
    have q0 : w6.cell? ⟨w.heap.size, 1, none⟩ = some (.slice A T.length cap) := ((hd25.trans (hb10.mono (by omega))).cell (p := ⟨w.heap.size, 1, none⟩) hbw2).trans e1
    have Hhr6 := Lib.hid hr6; clear hr6; have Hhown5 := Lib.hid hown5; clear hown5; have Hhr36 := Lib.hid hr36; clear hr36
    by_cases hE1 : growE T l = 0
    case neg =>
      have hE1b : (growE T l != 0) = true := bne_iff_ne.2 hE1
      generalize growE T l = E1 at *
      go_wp2_with fail
      go_ret
      exact ⟨rfl, hb11⟩
    case pos =>
      rw [hE1]
      by_cases hE2 : growE T (l ++ [more]) = 0
      case neg =>
        have hE2b : (growE T (l ++ [more]) != 0) = true := bne_iff_ne.2 hE2
        generalize growE T (l ++ [more]) = E2 at *
        go_wp2_with fail
        go_ret
        exact ⟨rfl, hb11⟩
      case pos =>
        rw [hE2]
        have hL1 := growL_len hE1
        have hL2 := growL_len hE2
        obtain ⟨hr1, hn1, hm1⟩ := grow_ok hE1
        obtain ⟨hr2, hn2, hm2⟩ := grow_ok hE2
        have hg1 : growL T l = nearL T (l.map Int.toNat) := by unfold growL; rw [if_pos hE1]
        have hg2 : growL T (l ++ [more]) = nearL T (l.map Int.toNat ++ [more.toNat]) := by unfold growL; rw [if_pos hE2, List.map_append]; rfl
        rw [List.map_append] at hm2
        have hmr := hr2 more (by simp)
        have hS1 : ∀ s ∈ l.map Int.toNat, s < T.length := fun s hs => by
          obtain ⟨y, hy, rfl⟩ := List.mem_map.1 hs
          have := hr1 y hy
          omega
        have hS2 : ∀ s ∈ l.map Int.toNat ++ [more.toNat], s < T.length := fun s hs => by
          rcases List.mem_append.1 hs with h9 | h9
          · exact hS1 s h9
          · rw [List.mem_singleton.1 h9]; omega
        have hnd2 : (l.map Int.toNat ++ [more.toNat]).Nodup := by
          have := nodup_map_toNat (fun s hs => (hr2 s hs).1) hn2
          rw [List.map_append] at this
          exact this
        have hlast : (nearL T (l.map Int.toNat ++ [more.toNat]))[more.toNat]? = some (l.length : Int) := by
          have := Hhs.out.near_seed hS2 hnd2 (i := l.length) (s := more.toNat) (by rw [List.getElem?_append_right (by simp)]; simp)
          exact this
        have hboth : ∀ i, i < T.length → ∃ a b : Int, (nearL T (l.map Int.toNat))[i]? = some a ∧ (nearL T (l.map Int.toNat ++ [more.toNat]))[i]? = some b ∧ (b = a ∨ b = l.length) := fun i hi => by
          obtain ⟨a, ha⟩ := (near_all.1 hm1) i hi
          obtain ⟨b, hb⟩ := (near_all.1 hm2) i hi
          refine ⟨a, b, by rw [nearL_at hi, ha]; rfl, by rw [nearL_at hi, show nearO T (l.map Int.toNat ++ [more.toNat]) i = some b from hb]; rfl, ?_⟩
          have := Hhs.out.near_more hS1 (a := more.toNat) (by omega) ha hb
          rw [List.length_map] at this
          omega
        have hs1 := Hhr36.out
        have hs2 := Hhr6.out
        rw [hL1] at hs1 hc3 ⊢
        rw [hL2] at hs2 hc6 ⊢
        rw [hg1] at hs1 hL1
        rw [hg2] at hs2 hL2
        clear Hhr36 Hhr6
        generalize nearL T (l.map Int.toNat) = M1 at *
        generalize nearL T (l.map Int.toNat ++ [more.toNat]) = M2 at *
        obtain ⟨mN, rfl⟩ : ∃ n : Nat, more = (n : Int) := ⟨more.toNat, by omega⟩
        rw [Int.toNat_natCast] at hlast
        have hmN : mN < T.length := by omega
        have hmi : (mN : Int) < (T.length : Int) := by omega
        clear hE1 hE2 hg1 hg2
        have Hhs1 := Lib.hid hs1; clear hs1; have Hhs2 := Lib.hid hs2; clear hs2; have Hhr1 := Lib.hid hr1; clear hr1; have Hhr2 := Lib.hid hr2; clear hr2; have Hhn1 := Lib.hid hn1; clear hn1; have Hhn2 := Lib.hid hn2; clear hn2; have Hhm1 := Lib.hid hm1; clear hm1; have Hhm2 := Lib.hid hm2; clear hm2; have HhS1 := Lib.hid hS1; clear hS1; have HhS2 := Lib.hid hS2; clear hS2; have Hhnd2 := Lib.hid hnd2; clear hnd2; have Hhlast := Lib.hid hlast; clear hlast; have Hhboth := Lib.hid hboth; clear hboth
        go_wp2_with fail
        go_loopw [12] (fun iv wr => ∃ i : Nat, i ≤ T.length ∧ iv = .int .i64 (i : Int) ∧ Below w6.heap.size w6 wr) (fun iv _ => T.length - (intOf iv).toNat)
        case atStart => exact ⟨0, by omega, rfl, Below.refl _ _⟩
        case round =>
          obtain ⟨i, hi, rfl, hbel⟩ := hrel
          by_cases hil : i < T.length
          · obtain ⟨a, b, ha, hb, hab⟩ := Hhboth.out i hil
            have hs1r := Hhs1.out.below keeps_int hbel
            have hs2r := Hhs2.out.below keeps_int hbel
            obtain ⟨p1, p2⟩ := List.getElem?_eq_some_iff.1 ha
            obtain ⟨q1, q2⟩ := List.getElem?_eq_some_iff.1 hb
            obtain ⟨b1, o1, rfl, hb1l, ca⟩ := hs1r.int_at p1
            obtain ⟨b2, o2, rfl, hb2l, cb⟩ := hs2r.int_at q1
            rw [p2] at ca
            rw [q2] at cb
            have hii : (i : Int) < (T.length : Int) := by omega
            by_cases hbe : b = a
            · subst hbe
              have Hha := Lib.hid ha; clear ha; have Hhb := Lib.hid hb; clear hb; have Hhab := Lib.hid hab; clear hab; have Hhs1r := Lib.hid hs1r; clear hs1r; have Hhs2r := Lib.hid hs2r; clear hs2r; have Hp2 := Lib.hid p2; clear p2; have Hq2 := Lib.hid q2; clear q2
              go_wp2_with fail
              go_wp2_with fail
              refine Go.Canon.wp_region_text mixed (by kernel_rfl) ?_
              go_wp2_with fail
              refine Go.Canon.chk (by rfl) ?_
              go_wp2_with fail
              exact ⟨⟨i + 1, by omega, by simp, hbel.drew⟩, by simp [intOf]; omega⟩
            · obtain rfl : b = l.length := hab.resolve_left hbe
              have hbn : ((l.length : Int) != a) = true := bne_iff_ne.2 hbe
              have Hha := Lib.hid ha; clear ha; have Hhb := Lib.hid hb; clear hb; have Hhab := Lib.hid hab; clear hab; have Hhs1r := Lib.hid hs1r; clear hs1r; have Hhs2r := Lib.hid hs2r; clear hs2r; have Hp2 := Lib.hid p2; clear p2; have Hq2 := Lib.hid q2; clear q2
              go_wp2_with fail
              go_wp2_with fail
              refine Go.Canon.wp_region_text mixed (by kernel_rfl) ?_
              go_wp2_with fail
              refine Go.Canon.chk (by rfl) ?_
              go_wp2_with fail
              exact ⟨⟨i + 1, by omega, by simp, hbel.drew⟩, by simp [intOf]; omega⟩
          · obtain rfl : i = T.length := by omega
            have hs2r := Hhs2.out.below keeps_int hbel
            obtain ⟨q1, q2⟩ := List.getElem?_eq_some_iff.1 Hhlast.out
            obtain ⟨b2, o2, rfl, hb2l, cb⟩ := hs2r.int_at q1
            rw [q2] at cb
            have hfi := below_call hb11 hbel hb11.size
            have Hhs2r := Lib.hid hs2r; clear hs2r; have Hq2 := Lib.hid q2; clear q2
            go_wp2_with fail
            go_ret
            exact ⟨rfl, hfi⟩
end Go.Proofs.Ytpmmjjbllmeneaa
