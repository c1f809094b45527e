/- The law BayMore, walked. -/
import Derived.Test.YtpmmjjbllmeneaaDK
namespace Go.Mesh
section
variable {N : Int} {T : List T3}
theorem Surf.seedsOf_ok (h : Surf N T) (h256 : T.length ≤ 256) (n : Nat) : (seedsOf T n).length = min n T.length ∧ (seedsOf T n).Nodup ∧ ∀ s ∈ seedsOf T n, s < T.length := by
  unfold seedsOf
  by_cases h0 : T.length = 0 ∨ (n : Int) < 1
  · rw [if_pos h0]
    exact ⟨by simp; omega, List.nodup_nil, fun s hs => by cases hs⟩
  · rw [if_neg h0]
    rw [Int.toNat_natCast]
    obtain ⟨h1, h2, h3⟩ := h.seeds_ok (by omega) (min n (min 256 T.length) - 1) (by omega)
    exact ⟨by rw [h1]; omega, h2, h3⟩
theorem seedsOf_take {n m : Nat} (hnm : n ≤ m) : (seedsOf T m).take (seedsOf T n).length = seedsOf T n := by
  have key : seedsOf T n <+: seedsOf T m := by
    unfold seedsOf
    by_cases h0 : T.length = 0 ∨ (n : Int) < 1
    · rw [if_pos h0]; exact List.nil_prefix
    · rw [if_neg h0, if_neg (by omega)]
      exact seeds_prefix T (by omega)
  exact (List.prefix_iff_eq_take.1 key).symm
theorem badE_ok {n : Nat} {l : List Int} (h1 : ∀ s ∈ l, 0 ≤ s ∧ s < n) (h2 : l.Nodup) : ∀ k, k ≤ l.length → badE n l k = none
  | 0, _ => rfl
  | k + 1, hk => by
    unfold badE
    rw [badE_ok h1 h2 k (by omega)]
    have hm : l.getD k 0 ∈ l := by
      rw [List.getD_eq_getElem?_getD, List.getElem?_eq_getElem (by omega)]
      exact List.getElem_mem _
    have h3 := h1 _ hm
    simp only []
    rw [if_neg (by omega), if_neg]
    intro h4
    have h5 := take_getD (l := l) (k := k) (by omega)
    have h6 := h2.sublist (List.take_sublist (k + 1) l)
    rw [h5] at h6
    exact (List.nodup_append.1 h6).2.2 _ h4 _ (by simp) rfl
/-- Where all are seeds, bays grow, and each is one. -/
theorem Surf.grow_all (h : Surf N T) {S : List Nat} (hn : S.Nodup) (hl : ∀ s ∈ S, s < T.length) (hlen : S.length = T.length) (h256 : T.length ≤ 256) : growE T (S.map fun n : Nat => (n : Int)) = 0 ∧ growL T (S.map fun n : Nat => (n : Int)) = nearL T S := by
  have hm : (S.map fun n : Nat => (n : Int)).map Int.toNat = S := by
    rw [List.map_map]
    conv => rhs; rw [← List.map_id S]
    exact List.map_congr_left fun s _ => rfl
  have hall : ∀ x, x < T.length → x ∈ S := fun x hx => Classical.byContradiction fun h9 => by
    have := nodup_len (m := List.range T.length) (List.nodup_cons.2 ⟨h9, hn⟩) fun a ha => List.mem_range.2 (by
      rcases List.mem_cons.1 ha with rfl | h8
      · exact hx
      · exact hl a h8)
    rw [List.length_cons, List.length_range] at this
    omega
  have hna : (-1 : Int) ∉ nearL T S := near_all.2 fun x hx => by
    obtain ⟨i, hi⟩ := mem_at (hall x hx)
    exact ⟨i, ((h.best_iff hl).2 (best_seed hn hi)).2⟩
  have h0 : growE T (S.map fun n : Nat => (n : Int)) = 0 := by
    unfold growE
    rw [if_neg (by rw [List.length_map]; omega), badE_ok (fun s hs => by
      obtain ⟨y, hy, rfl⟩ := List.mem_map.1 hs
      have := hl y hy
      omega) (nodup_inj hn fun a _ b _ e => by omega) _ (Nat.le_refl _), hm, if_neg hna]
  exact ⟨h0, by unfold growL; rw [if_pos h0, hm]⟩
end
end Go.Mesh
namespace Go.Proofs.Ytpmmjjbllmeneaa
open Go Go.RowKit Go.Words Go.Mesh

set_option maxRecDepth 100000 in
set_option maxHeartbeats 2000000 in
theorem more_law (sv : Value) (N : Int) (T : List T3) (a b : Nat) (w : World) {B : Nat} (hB0 : B ≤ w.heap.size) (hT : Sl 3 RTri w B sv T) (hN : I64 N) (ha : a < 256) (hb : b < 256) :
    Calls Try.prog 7 #[.agg #[.int .i64 N, sv], .int .u8 (a : Int), .int .u8 (b : Int)] w fun e w' => e = .returned (.bool true) ∧ Below w.heap.size w w' := by
  obtain ⟨A, cap, rfl, hcap⟩ := hT.form
  have hb1 := (Below.refl w.heap.size w).alloc (Nat.le_refl _) (.cells #[.int .i64 N, .slice A T.length cap] 24)
  have hbox := Bk.new w 24 [.int .i64 N, .slice A T.length cap]
  have hTA := hT.below keeps_tri (hb1.mono hB0)
  have hbl := hbox.lt
  have c0 := hbox.cell 0
  have c1 := hbox.cell 1
  simp only [List.getElem?_cons_zero, List.getElem?_cons_succ] at c0 c1
  generalize hw0 : w.alloc (.cells #[.int .i64 N, .slice A T.length cap] 24) = w0 at *
  have haw := awake39_calls w0
  have hz0 := hb1.size
  have HhT := Lib.hid hT; have Hhbox := Lib.hid hbox; have HhTA := Lib.hid hTA; have Hhaw := Lib.hid haw; clear hT hbox hTA haw
  go_enter Try.func7, Try.ntmps7
  go_wp2_with fail
  clear hw0
  refine Hhaw.out.mono ?_
  rintro e w1 ⟨rfl, hb2⟩
  have hb3 := below_call hb1 hb2 hb1.size
  have d0 : w1.cell? ⟨w.heap.size, 0, none⟩ = some (.int .i64 N) := (hb2.cell (p := ⟨w.heap.size, 0, none⟩) hbl).trans c0
  have d1 : w1.cell? ⟨w.heap.size, 1, none⟩ = some (.slice A T.length cap) := (hb2.cell (p := ⟨w.heap.size, 1, none⟩) hbl).trans c1
  have hT1 := HhTA.out.below keeps_tri (hb2.mono (by omega))
  have hz1 := hb2.size
  have htb := table39_calls hT1 (by omega) hN
  have HhT1 := Lib.hid hT1; have Hhtb := Lib.hid htb; clear hT1 htb
  go_wp2_with fail
  refine Hhtb.out.mono ?_
  rintro e w2 ⟨⟨pv, B', rfl, hor⟩, hb4⟩
  have hb5 := below_call hb3 hb4 hb3.size
  have hz2 := hb4.size
  have e0 : w2.cell? ⟨w.heap.size, 0, none⟩ = some (.int .i64 N) := (hb4.cell (p := ⟨w.heap.size, 0, none⟩) (by show w.heap.size < _; omega)).trans d0
  have e1 : w2.cell? ⟨w.heap.size, 1, none⟩ = some (.slice A T.length cap) := (hb4.cell (p := ⟨w.heap.size, 1, none⟩) (by show w.heap.size < _; omega)).trans d1
  have hT2 := HhT1.out.below keeps_tri (hb4.mono (by omega))
  have hbw2 : w.heap.size < w2.heap.size := by omega
  have hB2 : B ≤ w2.heap.size := by omega
  have hw12 : Below w.heap.size w w1 := hb3
  clear c0 c1 d0 d1
  rcases hor with ⟨hsm, hs, htab⟩ | ⟨hno, rfl⟩
  case inr =>
    have HhT2 := Lib.hid hT2; have Hhno := Lib.hid hno; clear hT2 hno
    go_wp2_with fail
    go_ret
    exact ⟨rfl, hb5⟩
  obtain ⟨g, rfl⟩ : ∃ g, pv = .pointer (some ⟨g, 0, none⟩) := by
    obtain ⟨g, _, _, _, _, _, rfl, _⟩ := htab
    exact ⟨_, rfl⟩
  have hle := htab.le
  obtain ⟨h30, hN0, h60⟩ := hsm
  obtain ⟨n, hn1, hn2⟩ : ∃ n : Nat, ((a : Int) % 40) = (n : Int) ∧ n < 40 := ⟨a % 40, by omega, by omega⟩
  obtain ⟨k, hk1, hk2⟩ : ∃ k : Nat, ((b : Int) % 40) = (k : Int) ∧ k < 40 := ⟨b % 40, by omega, by omega⟩
  have hse1 := seeds_calls htab hs (n : Int)
  have hse2 := fun wz (hz : Below w2.heap.size w2 wz) => seeds_calls (htab.below (hz.mono hle) (Nat.le_refl _)) hs ((n : Int) + (k : Int))
  have hgr := fun wz r B2 (hz : Below w2.heap.size w2 wz) l h1 h2 h3 => grow_calls (l := l) (sv := r) (B2 := B2) (htab.below (hz.mono hle) (Nat.le_refl _)) hs h1 h2 h3
  obtain ⟨x1, x2, x3⟩ := hs.seedsOf_ok (by omega) n
  obtain ⟨y1, y2, y3⟩ := hs.seedsOf_ok (by omega) (n + k)
  have hpre := seedsOf_take (T := T) (n := n) (m := n + k) (by omega)
  rw [show ((n : Int) + (k : Int)) = ((n + k : Nat) : Int) by omega] at hse2
  generalize hX : seedsOf T (n : Int) = X at *
  generalize hY : seedsOf T ((n + k : Nat) : Int) = Y at *
  rw [show (((n + k : Nat)) : Int) = (n : Int) + (k : Int) by omega] at hse2
  have hm1 : min (n : Int) (T.length : Int) = (X.length : Int) := by omega
  have hm2 : min ((n : Int) + (k : Int)) (T.length : Int) = (Y.length : Int) := by omega
  have hxy : X.length ≤ Y.length := by omega
  have hYT : Y.length ≤ T.length := by omega
  have hYm : T.length ≤ n + k → Y.length = T.length := by omega
  have HhT2 := Lib.hid hT2; have Hhs := Lib.hid hs; have Hhtab := Lib.hid htab; have Hhse1 := Lib.hid hse1; have Hhse2 := Lib.hid hse2; have Hhgr := Lib.hid hgr; have Hx1 := Lib.hid x1; have Hx2 := Lib.hid x2; have Hx3 := Lib.hid x3; have Hy1 := Lib.hid y1; have Hy2 := Lib.hid y2; have Hy3 := Lib.hid y3; have Hhpre := Lib.hid hpre; have HhX := Lib.hid hX; have HhY := Lib.hid hY; have HhYm := Lib.hid hYm; clear hT2 hs htab hse1 hse2 hgr x1 x2 x3 y1 y2 y3 hpre hX hY hYm
  go_wp2_with fail
  refine Hhse1.out.mono ?_
  rintro e w3 ⟨⟨r3, rfl, hown3⟩, hb6⟩
  obtain ⟨A3, cap3, rfl, hc3⟩ := own_form hown3
  have hz3 := hb6.size
  have Hhown3 := Lib.hid hown3; clear hown3
  go_wp2_with fail
  refine (Hhse2.out _ hb6).mono ?_
  rintro e w4 ⟨⟨r4, rfl, hown4⟩, hb7⟩
  obtain ⟨A4, cap4, rfl, hc4⟩ := own_form hown4
  have hz4 := hb7.size
  have hd4 := hb6.trans (hb7.mono hz3)
  have hb8 := below_call hb5 hd4 hb5.size
  have q1 : w4.cell? ⟨w.heap.size, 1, none⟩ = some (.slice A T.length cap) := (hd4.cell (p := ⟨w.heap.size, 1, none⟩) hbw2).trans e1
  have hs3 := (sl_nvals Hhown3.out).keep (B' := w4.heap.size) keeps_int hb7 hz4
  have hs4 := sl_nvals hown4
  have hs4t := hs4.take hxy
  rw [← List.map_take, Hhpre.out] at hs4t
  have hin := ints_calls hs3 hs4t (Nat.le_refl _) (by rw [List.length_map]; omega)
  rw [decide_eq_true rfl] at hin
  have hxyi : (X.length : Int) ≤ (Y.length : Int) := by omega
  have Hhown4 := Lib.hid hown4; clear hown4; have Hhs3 := Lib.hid hs3; clear hs3; have Hhs4 := Lib.hid hs4; clear hs4; have Hhs4t := Lib.hid hs4t; clear hs4t; have Hhin := Lib.hid hin; clear hin
  go_wp2_with fail
  refine Hhin.out.mono ?_
  rintro e w5 ⟨rfl, hb9⟩
  have hz5 := hb9.size
  have hb10 := below_call hb8 hb9 hb8.size
  have hd5 := hd4.trans (hb9.mono hd4.size)
  have q5 : w5.cell? ⟨w.heap.size, 1, none⟩ = some (.slice A T.length cap) := (hd5.cell (p := ⟨w.heap.size, 1, none⟩) hbw2).trans e1
  clear q1
  by_cases hmT : n + k < T.length
  case pos =>
    have hmTi : (n : Int) + (k : Int) < (T.length : Int) := by omega
    clear hmT
    go_wp2_with fail
    go_ret
    exact ⟨rfl, hb10⟩
  case neg =>
    have hmTi : (T.length : Int) ≤ (n : Int) + (k : Int) := by omega
    have hYl := HhYm.out (by omega)
    obtain ⟨g1, g2⟩ := Hhs.out.grow_all Hy2.out Hy3.out hYl (by omega)
    have hs45 := Hhs4.out.keep (B' := w5.heap.size) keeps_int hb9 hz5
    have hgr5 := Hhgr.out w5 _ _ hd5 _ (Nat.le_refl _) hs45 (by rw [List.length_map]; omega)
    have hsd := fun i s h => Hhs.out.near_seed (S := Y) Hy3.out Hy2.out (i := i) (s := s) h
    clear hmT
    have HhYl := Lib.hid hYl; clear hYl; have Hg1 := Lib.hid g1; clear g1; have Hg2 := Lib.hid g2; clear g2; have Hhs45 := Lib.hid hs45; clear hs45; have Hhgr5 := Lib.hid hgr5; clear hgr5; have Hhsd := Lib.hid hsd; clear hsd
    go_wp2_with fail
    refine Hhgr5.out.mono ?_
    rintro e w6 ⟨⟨r6, rfl, hr6⟩, hb11⟩
    rw [Hg1.out]
    rw [Hg2.out] at hr6
    have hz6 := hb11.size
    obtain ⟨A6, cap6, rfl, hc6⟩ := hr6.form
    have hnl := nearL_len T Y
    have hs46 := Hhs45.out.keep (B' := w6.heap.size) keeps_int hb11 hz6
    have hd6 := hd5.trans (hb11.mono hd5.size)
    have hb12 := below_call hb10 hb11 hb10.size
    have q6 : w6.cell? ⟨w.heap.size, 1, none⟩ = some (.slice A T.length cap) := (hd6.cell (p := ⟨w.heap.size, 1, none⟩) hbw2).trans e1
    rw [hnl] at hc6 ⊢
    clear q5
    generalize nearL T Y = M at *
    rw [hnl] at hr6
    have Hhr6 := Lib.hid hr6; clear hr6; have Hhs46 := Lib.hid hs46; clear hs46
    go_wp2_with fail
    go_loopw [14] (fun iv wr => ∃ i : Nat, i ≤ Y.length ∧ iv = .int .i64 (i : Int) ∧ wr = w6) (fun iv _ => Y.length - (intOf iv).toNat)
    case atStart => exact ⟨0, by omega, rfl, rfl⟩
    case round =>
      obtain ⟨i, hi, rfl, rfl⟩ := hrel
      by_cases hiY : i < Y.length
      · obtain ⟨b1, o1, rfl, hb1l, c1⟩ := Hhs46.out.int_at (k := i) (by rw [List.length_map]; exact hiY)
        rw [List.getElem_map] at c1
        have hyl := Hy3.out _ (List.getElem_mem hiY)
        have hsd := Hhsd.out i _ (List.getElem?_eq_getElem hiY)
        generalize Y[i] = y at *
        obtain ⟨p1, p2⟩ := List.getElem?_eq_some_iff.1 hsd
        obtain ⟨b2, o2, rfl, hb2l, c2⟩ := Hhr6.out.int_at p1
        rw [p2] at c2
        have hyi : (y : Int) < (T.length : Int) := by omega
        have hii : (i : Int) < (Y.length : Int) := by omega
        have Hhsd := Lib.hid hsd; clear hsd; have Hp2 := Lib.hid p2; clear p2
        go_wp2_with fail
        exact ⟨⟨i + 1, by omega, by simp, by trivial⟩, by simp [intOf]; omega⟩
      · obtain rfl : i = Y.length := by omega
        go_wp2_with fail
        go_ret
        exact ⟨rfl, hb12⟩
end Go.Proofs.Ytpmmjjbllmeneaa
