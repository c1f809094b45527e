/- The law BorderOnce, walked. -/
import Derived.Test.YtckkpmjkajkkmaaBP
import Derived.Test.YtckkpmjkajkkmaaTU
namespace Go.Proofs.Ytckkpmjkajkkmaa
open Go Go.RowKit Go.Words Go.Mesh

/-- How often each number below n stands in a list, as values. -/
def cvals (l : List Nat) (n : Nat) : List Value := (List.range n).map fun u => .int .i64 (l.count u : Int)
theorem cvals_at (l : List Nat) {n u : Nat} (h : u < n) : (cvals l n)[u]? = some (.int .i64 (l.count u : Int)) := by unfold cvals; simp [h]
theorem cvals_nil (n : Nat) : cvals [] n = List.replicate n (.int .i64 0) := by
  unfold cvals
  apply List.ext_getElem?
  intro c
  by_cases hc : c < n
  · rw [List.getElem?_map, List.getElem?_range hc, List.getElem?_replicate, if_pos hc]; rfl
  · rw [List.getElem?_eq_none (by simp; omega), List.getElem?_eq_none (by simp; omega)]
theorem cvals_snoc (l : List Nat) (n x : Nat) : cvals (l ++ [x]) n = (cvals l n).set x (.int .i64 ((l.count x : Int) + 1)) := by
  apply List.ext_getElem?
  intro d
  rw [List.getElem?_set]
  by_cases hdn : d < n
  · rw [cvals_at _ hdn, cvals_at _ hdn]
    by_cases hd : x = d
    · subst hd
      rw [if_pos rfl, if_pos (by unfold cvals; simpa using hdn), List.count_append]
      simp
    · rw [if_neg hd, List.count_append]
      simp [hd]
  · have h1 : ∀ m : List Nat, (cvals m n).length = n := fun m => by unfold cvals; simp
    rw [List.getElem?_eq_none (by rw [h1]; omega)]
    by_cases hd : x = d
    · subst hd; rw [if_pos rfl, if_neg (by rw [h1]; omega)]
    · rw [if_neg hd, List.getElem?_eq_none (by rw [h1]; omega)]
theorem own_cell {w : World} {base g n cap i : Nat} {e : TypeId} {u : Value} {xs : List Value} (h : w.ownsRow base e 1 (.slice (some ⟨g, 0, none⟩) n cap) n xs) (hi : xs[i]? = some u) : w.cell? ⟨g, i, none⟩ = some u ∧ base ≤ g ∧ g < w.heap.size := by
  rcases h.2 with ⟨h1, _⟩ | ⟨g', cap', cur, h1, hb, hg, _, _, _, hx⟩
  · cases h1
  · injection h1 with h1
    injection h1 with h1
    injection h1 with h1
    subst h1
    refine ⟨?_, hb, (Array.getElem?_eq_some_iff.1 hg).1⟩
    have hbk : Bk w g e cur.toList := by unfold Bk; rw [hg]
    rw [hbk.cell i]
    rw [← hx, List.getElem?_take] at hi
    split at hi
    · exact hi
    · cases hi
theorem own_kept {w w' : World} {base g n size : Nat} {v : Value} {e : TypeId} {xs : List Value} (h : w.ownsRow base e size v n xs) (hg : w.grownBy w' (some g)) (hlt : g < base) : w'.ownsRow base e size v n xs :=
  h.kept hg (by
    cases hv : v.ownBlock with
    | none => exact .inl rfl
    | some k => exact .inr (by intro e; cases e; have := (h.lt g hv).1; omega))
theorem OwnRows.kept {w w' : World} {base g : Nat} {r : Value} {Ls : List (List Nat)} (h : OwnRows w base r Ls) (hg : w.grownBy w' (some g)) (hlt : g < base) : OwnRows w' base r Ls := by
  obtain ⟨vs, h1, h2, h3⟩ := h
  exact ⟨vs, h1, own_kept h2 hg hlt, fun i v L e1 e2 => own_kept (h3 i v L e1 e2) hg hlt⟩
theorem OwnRows.at_ {w : World} {base : Nat} {A : Option Addr} {n cap : Nat} {Ls : List (List Nat)} (h : OwnRows w base (.slice A n cap) Ls) (hn : Ls.length = n) {i : Nat} (hi : i < Ls.length) :
    ∃ g v, A = some ⟨g, 0, none⟩ ∧ w.cell? ⟨g, i, none⟩ = some v ∧ base ≤ g ∧ g < w.heap.size ∧ w.ownsRow base 3 1 v Ls[i].length (nvals Ls[i]) := by
  obtain ⟨vs, h1, h2, h3⟩ := h
  subst hn
  obtain ⟨g, rfl⟩ := own_addr h2 (by omega)
  have hv : vs[i]? = some (vs[i]'(by omega)) := List.getElem?_eq_getElem (by omega)
  obtain ⟨c1, c2, c3⟩ := own_cell h2 hv
  exact ⟨g, _, rfl, c1, c2, c3, h3 i _ _ hv (List.getElem?_eq_getElem hi)⟩
theorem nvals_at {l : List Nat} {i : Nat} (h : i < l.length) : (nvals l)[i]? = some (.int .i64 (l[i] : Int)) := by unfold nvals; simp [h]
theorem grown_set {w w' : World} {g i : Nat} (h : w.grownBy w' (some g)) (u : Value) : w.grownBy (w'.setCell ⟨g, i, none⟩ u) (some g) :=
  ⟨h.os, h.tape, h.output, by have := h.size; simpa [World.setCell] using this, fun k hk hne => by
    rw [Below.heap_setCell _ _ _ _ (fun e => hne (by rw [e])), h.block k hk hne]⟩
set_option maxRecDepth 100000 in
set_option maxHeartbeats 2000000 in
theorem once12_law (sv : Value) (N : Int) (T : List T3) (w : World) {B : Nat} (hB0 : B ≤ w.heap.size) (hT : Sl 3 RTri w B sv T) (hN : I64 N) :
    Calls Try.prog 14 #[.agg #[.int .i64 N, sv]] w fun e w' => e = .returned (.bool true) ∧ Below w.heap.size w w' := by
  obtain ⟨A, cap, rfl, hcap⟩ := hT.form
  have hb1 := (Below.refl w.heap.size w).alloc (Nat.le_refl _) (.cells #[.int .i64 N, .slice A T.length cap] 24)
  have hbox := Bk.new w 24 [.int .i64 N, .slice A T.length cap]
  have hTA := hT.below keeps_tri (hb1.mono hB0)
  have hbl := hbox.lt
  have c0 := hbox.cell 0
  have c1 := hbox.cell 1
  simp only [List.getElem?_cons_zero, List.getElem?_cons_succ] at c0 c1
  generalize hw0 : w.alloc (.cells #[.int .i64 N, .slice A T.length cap] 24) = w0 at *
  have haw := awake12_calls w0
  have hz0 := hb1.size
  have HhT := Lib.hid hT; have Hhbox := Lib.hid hbox; have HhTA := Lib.hid hTA; have Hhaw := Lib.hid haw; clear hT hbox hTA haw
  go_enter Try.func14, Try.ntmps14
  go_wp2_with fail
  clear hw0
  refine Hhaw.out.mono ?_
  rintro e w1 ⟨rfl, hb2⟩
  have hb3 := below_call hb1 hb2 hb1.size
  have d0 : w1.cell? ⟨w.heap.size, 0, none⟩ = some (.int .i64 N) := (hb2.cell (p := ⟨w.heap.size, 0, none⟩) hbl).trans c0
  have d1 : w1.cell? ⟨w.heap.size, 1, none⟩ = some (.slice A T.length cap) := (hb2.cell (p := ⟨w.heap.size, 1, none⟩) hbl).trans c1
  have hT1 := HhTA.out.below keeps_tri (hb2.mono (by omega))
  have hz1 := hb2.size
  have htb := table12_calls hT1 (by omega) hN
  have HhT1 := Lib.hid hT1; have Hhtb := Lib.hid htb; clear hT1 htb
  go_wp2_with fail
  refine Hhtb.out.mono ?_
  rintro e w2 ⟨⟨tv, B', rfl, hor⟩, hb4⟩
  have hb5 := below_call hb3 hb4 hb3.size
  have hz2 := hb4.size
  have e0 : w2.cell? ⟨w.heap.size, 0, none⟩ = some (.int .i64 N) := (hb4.cell (p := ⟨w.heap.size, 0, none⟩) (by show w.heap.size < _; omega)).trans d0
  have e1 : w2.cell? ⟨w.heap.size, 1, none⟩ = some (.slice A T.length cap) := (hb4.cell (p := ⟨w.heap.size, 1, none⟩) (by show w.heap.size < _; omega)).trans d1
  have hT2 := HhT1.out.below keeps_tri (hb4.mono (by omega))
  have hbw2 : w.heap.size < w2.heap.size := by omega
  have hB2 : B ≤ w2.heap.size := by omega
  clear c0 c1 d0 d1 hb1 hb2 hb3 hb4 hz0 hz1 hz2 hbl
  rcases hor with ⟨h40, hs, htab⟩ | ⟨hno, rfl⟩
  rotate_left 1
  · by_cases h40 : T.length ≤ 40
    · have hns : ¬ Surf N T := fun h => hno ⟨h40, h⟩
      have hsu := surface9_calls (.slice A T.length cap) N T w2 hB2 hT2 (by omega)
      have HhT2 := Lib.hid hT2; have Hhsu := Lib.hid hsu; have Hhns := Lib.hid hns; have Hhno := Lib.hid hno; clear hT2 hsu hns hno
      go_wp2_with fail
      refine Hhsu.out.mono ?_
      rintro e w3 ⟨⟨b, rfl, hb⟩, hb6⟩
      obtain rfl : b = false := by
        cases b with
        | false => rfl
        | true => exact absurd (hb.1 rfl) Hhns.out
      have hb7 := below_call hb5 hb6 hb5.size
      have Hhb := Lib.hid hb; clear hb
      go_wp2_with fail
      go_ret
      exact ⟨rfl, hb7⟩
    · have h3 : 40 < (T.length : Int) := by omega
      clear h40
      have HhT2 := Lib.hid hT2; have Hhno := Lib.hid hno; clear hT2 hno
      go_wp2_with fail
      go_ret
      exact ⟨rfl, hb5⟩
  obtain ⟨g, rfl⟩ : ∃ g, tv = .pointer (some ⟨g, 0, none⟩) := by
    obtain ⟨g, _, _, _, _, _, rfl, _⟩ := htab
    exact ⟨_, rfl⟩
  have hTN : TabN w2 B' (.pointer (some ⟨g, 0, none⟩)) N T := .inl htab
  have hle := hTN.le
  obtain ⟨nN, rfl⟩ : ∃ nN : Nat, N = (nN : Int) := ⟨N.toNat, by have := hs.n0; omega⟩
  have hmax := hs.nmax
  have hlo := fun wz (hz : TabN wz B' (.pointer (some ⟨g, 0, none⟩)) nN T) => bloops_calls hz hs
  have hin := fun wz x (hz : TabN wz B' (.pointer (some ⟨g, 0, none⟩)) nN T) => inner_calls hz hs x
  have haf := fun wz x (hz : TabN wz B' (.pointer (some ⟨g, 0, none⟩)) nN T) => bafter_calls hz hs x
  have hed := fun wz (hz : TabN wz B' (.pointer (some ⟨g, 0, none⟩)) nN T) => bedges_calls hz hs
  have heach := fun L (hL : L ∈ lps T nN nN) => (hs.lps_each nN L hL).1
  have hlt := fun L (hL : L ∈ lps T nN nN) x (hx : x ∈ L) => hs.lps_lt hL hx
  have htot := hs.lps_total
  have hnd := hs.lps_nodup nN
  have hall := hs.lps_all
  have hlen := lps_len T nN nN
  have hbe : (bedges T).length ≤ 24576 := by have := bord_len T; have := hs.tmax; unfold bedges; rw [List.length_map]; omega
  rw [Int.toNat_natCast] at htot hall
  simp only [Int.toNat_natCast] at hlo
  generalize lps T nN nN = Ls at *
  have hm1 := run_make_rep (P := Try.prog) 28 Try.underlying28 info_int rfl nN (by omega) (by omega)
  have hb6 := (Below.refl w2.heap.size w2).alloc (Nat.le_refl _) (.cells (Array.replicate nN (Value.int .i64 0)) 3)
  have hbk : Bk (w2.alloc (.cells (Array.replicate nN (Value.int .i64 0)) 3)) w2.heap.size 3 (cvals [] nN) := by
    rw [cvals_nil, ← List.toArray_replicate]; exact Bk.new w2 3 _
  generalize hw3 : w2.alloc (.cells (Array.replicate nN (Value.int .i64 0)) 3) = w3 at *
  have hlo3 := hlo w3 (hTN.below (hb6.mono hle) (Nat.le_refl _))
  have hz3 := hb6.size
  have hg3 := hbk.lt
  have HhT2 := Lib.hid hT2; have Hhtab := Lib.hid htab; have HhTN := Lib.hid hTN; have Hhs := Lib.hid hs; have Hhlo := Lib.hid hlo; have Hhlo3 := Lib.hid hlo3; have Hhin := Lib.hid hin; have Hhaf := Lib.hid haf; have Hhed := Lib.hid hed; have Hheach := Lib.hid heach; have Hhlt := Lib.hid hlt; have Hhtot := Lib.hid htot; have Hhnd := Lib.hid hnd; have Hhall := Lib.hid hall; have Hhbk := Lib.hid hbk; clear hT2 htab hTN hs hlo hlo3 hin haf hed heach hlt htot hnd hall hbk
  go_wp2_with fail
  clear hm1 hw3
  refine Hhlo3.out.mono ?_
  rintro e w4 ⟨⟨r, rfl, vs, hvl, hown, hrows⟩, hb7⟩
  have hb67 := hb6.trans (hb7.mono hz3)
  have hz4 := hb7.size
  obtain ⟨A4, cap4, rfl, hc4⟩ := own_form hown
  have hbk4 := Hhbk.out.below hb7 hg3
  have Hhown := Lib.hid hown; have Hhrows := Lib.hid hrows; have Hhbk4 := Lib.hid hbk4; clear hown hrows hbk4
  go_wp2_with fail
  have hrow4 : OwnRows w4 w3.heap.size (.slice A4 Ls.length cap4) Ls := ⟨vs, hvl, Hhown.out, Hhrows.out⟩
  have hg0 : w2.heap.size < w3.heap.size := hg3
  have hgw : w.heap.size ≠ w2.heap.size := by omega
  have f0 : w4.cell? ⟨w.heap.size, 0, none⟩ = some (.int .i64 nN) := (hb67.cell (p := ⟨w.heap.size, 0, none⟩) hbw2).trans e0
  have hflat : Ls.flatten.length ≤ 24576 := by rw [Hhtot.out]; exact hbe
  have Hhrow4 := Lib.hid hrow4; clear hrow4
  go_loopw [5, 33] (fun al i wr => ∃ k : Nat, k ≤ Ls.length ∧ i = .int .i64 k ∧ al = .int .i64 ((Ls.take k).flatten.length : Int) ∧ Bk wr w2.heap.size 3 (cvals (Ls.take k).flatten nN) ∧ w4.grownBy wr (some w2.heap.size)) (fun _ i _ => Ls.length - (intOf i).toNat)
  case atStart => exact ⟨0, by omega, rfl, rfl, Hhbk4.out, World.grownBy.refl _ _⟩
  case round =>
    obtain ⟨k, hk, rfl, rfl, hbk, hgr⟩ := hrel
    obtain ⟨w5, hw5⟩ : ∃ w5, w5 = wr := ⟨_, rfl⟩
    subst hw5
    by_cases hkl : k < Ls.length
    · obtain ⟨gR, v, rfl, hcv4, hgR, hgR2, hrow⟩ := Hhrow4.out.at_ rfl hkl
      have hcv := hgr.cell hcv4 (by show some gR ≠ _; simp; omega)
      have h3 := Hheach.out _ (List.getElem_mem hkl)
      have hlt := Hhlt.out _ (List.getElem_mem hkl)
      have htk : (Ls.take (k + 1)).flatten = (Ls.take k).flatten ++ Ls[k] := by rw [List.take_succ_eq_append_getElem hkl, List.flatten_append, List.flatten_cons, List.flatten_nil, List.append_nil]
      have hfl : (Ls.take (k + 1)).flatten.length ≤ Ls.flatten.length := by
        conv => rhs; rw [← List.take_append_drop (k + 1) Ls, List.flatten_append, List.length_append]
        omega
      rw [htk, List.length_append] at hfl
      generalize Ls[k] = L at *
      generalize hpre : (Ls.take k).flatten = pre at *
      obtain ⟨A5, cap5, rfl, hc5⟩ := own_form hrow
      have hL3 : 3 ≤ (L.length : Int) := by omega
      have hz5 := hgr.size
      have hbk0 : Bk w5 w2.heap.size 3 (cvals (pre ++ L.take 0) nN) := by rw [List.take_zero, List.append_nil]; exact hbk
      have Hhbk := Lib.hid hbk; have Hhbk0 := Lib.hid hbk0; have Hhrow := Lib.hid hrow; have Hhpre := Lib.hid hpre; have Hhtk := Lib.hid htk; have Hhlt := Lib.hid hlt; clear hbk hbk0 hrow hpre htk hlt
      go_wp2_with fail
      go_loopw [5, 42] (fun al j wz => ∃ m : Nat, m ≤ L.length ∧ j = .int .i64 m ∧ al = .int .i64 ((pre ++ L.take m).length : Int) ∧ Bk wz w2.heap.size 3 (cvals (pre ++ L.take m) nN) ∧ w4.grownBy wz (some w2.heap.size)) (fun _ j _ => L.length - (intOf j).toNat)
      case atStart => exact ⟨0, by omega, rfl, by simp, Hhbk0.out, hgr⟩
      case round =>
        obtain ⟨m, hm, rfl, rfl, hbm, hgm⟩ := hrel
        obtain ⟨w6, hw6⟩ : ∃ w6, w6 = wr := ⟨_, rfl⟩
        subst hw6
        by_cases hml : m < L.length
        · obtain ⟨g5, rfl⟩ := own_addr Hhrow.out (by omega)
          obtain ⟨c5, hg5, hg5b⟩ := own_cell (own_kept Hhrow.out hgm hg0) (nvals_at hml)
          have p0 := hgm.cell f0 (by show some w.heap.size ≠ _; simp; omega)
          have hx := Hhlt.out _ (List.getElem_mem hml)
          have htm : pre ++ L.take (m + 1) = (pre ++ L.take m) ++ [L[m]] := by rw [List.take_succ_eq_append_getElem hml, List.append_assoc]
          have hcm := hbm.cell L[m]
          rw [cvals_at _ (by omega)] at hcm
          have hfm := hbm.frozen L[m]
          have hcl : (pre ++ L.take m).count L[m] ≤ 24576 := by
            have h1 := List.count_le_length (a := L[m]) (l := pre ++ L.take m)
            have h2 : (pre ++ L.take m).length ≤ pre.length + L.length := by rw [List.length_append, List.length_take]; omega
            omega
          have hll : (pre ++ L.take m).length ≤ 24576 := by rw [List.length_append, List.length_take]; omega
          have hset := cvals_snoc (pre ++ L.take m) nN L[m]
          have hl1 : ((pre ++ L.take (m + 1)).length : Int) = ((pre ++ L.take m).length : Int) + 1 := by rw [htm, List.length_append]; simp
          rw [← htm] at hset
          have hbs := hbm.set L[m] (.int .i64 (((pre ++ L.take m).count L[m] : Int) + 1))
          rw [← hset] at hbs
          have hgs := grown_set (i := L[m]) hgm (.int .i64 (((pre ++ L.take m).count L[m] : Int) + 1))
          generalize (pre ++ L.take m).count L[m] = cn at *
          generalize (pre ++ L.take m).length = ln at *
          generalize L[m] = x at *
          have Hhbm := Lib.hid hbm; have Hhset := Lib.hid hset; have Hhbs := Lib.hid hbs; have Hhtm := Lib.hid htm; have Hhgs := Lib.hid hgs; clear hbm hset hbs htm hgs
          go_wp2_with fail
          exact ⟨⟨m + 1, by omega, by simp, by rw [hl1], Hhbs.out, Hhgs.out⟩, by simp [intOf]; omega⟩
        · obtain rfl : m = L.length := by omega
          rw [List.take_length] at hbm ⊢
          rw [← Hhtk.out] at hbm ⊢
          have Hhbm := Lib.hid hbm; clear hbm
          go_wp2_with fail
          exact ⟨⟨k + 1, by omega, by simp, rfl, Hhbm.out, hgm⟩, by simp [intOf]; omega⟩
    · obtain rfl : k = Ls.length := by omega
      rw [List.take_length] at hbk ⊢
      have htl := Hhtot.out
      generalize Ls.flatten.length = tl at htl ⊢
      have hbw5 : Below w2.heap.size w2 w5 := hb67.grown hgr (by omega) (fun q e => by cases e; omega)
      have hcnt : ∀ u : Nat, u < nN → (Ls.flatten.count u : Int) = if innerAt T nN u = true then 0 else 1 := fun u hu => by
        rw [Hhs.out.aftV_inner (by omega)]
        cases ha : aftV T (u : Int) with
        | none =>
          have : u ∉ Ls.flatten := fun hm => by
            obtain ⟨b, hb⟩ := (Hhall.out u).1 hm
            rw [ha] at hb
            cases hb
          rw [List.count_eq_zero.2 this]; rfl
        | some b =>
          have h1 := List.count_pos_iff.2 ((Hhall.out u).2 ⟨b, ha⟩)
          have h2 := List.nodup_iff_count.1 Hhnd.out u
          simp only [Option.isNone_some, Bool.false_eq_true, if_false]
          omega
      have hafi : ∀ u : Nat, u < nN → (innerAt T nN u = true ∧ afI T u = -1) ∨ (innerAt T nN u = false ∧ 0 ≤ afI T u) := fun u hu => by
        rw [Hhs.out.aftV_inner (by omega)]
        unfold afI
        cases ha : aftV T (u : Int) with
        | none => exact .inl ⟨rfl, rfl⟩
        | some b => exact .inr ⟨rfl, (Hhs.out.aftV_rng ha).2.1⟩
      obtain ⟨F, hF⟩ : ∃ F, F = Ls.flatten := ⟨_, rfl⟩
      rw [← hF] at hbk hcnt
      have Hhbk := Lib.hid hbk; have Hhcnt := Lib.hid hcnt; have Hhafi := Lib.hid hafi; have HhF := Lib.hid hF; have Hhtl := Lib.hid htl; clear hbk hcnt hafi hF htl
      go_wp2_with fail
      go_loopw [10] (fun i wr => ∃ m : Nat, m ≤ nN ∧ i = .int .i64 m ∧ Bk wr w2.heap.size 3 (cvals F nN) ∧ Below w2.heap.size w2 wr) (fun i _ => nN - (intOf i).toNat)
      case atStart => exact ⟨0, by omega, rfl, Hhbk.out, hbw5⟩
      case round =>
        obtain ⟨m, hm, rfl, hbm, hbel⟩ := hrel
        obtain ⟨w6, hw6⟩ : ∃ w6, w6 = wr := ⟨_, rfl⟩
        subst hw6
        have p0 := (hbel.cell (p := ⟨w.heap.size, 0, none⟩) hbw2).trans e0
        have hbg := hbm.lt
        have hbz := hbel.size
        by_cases hmn : m < nN
        · have hin1 := Hhin.out w6 (m : Int) (HhTN.out.below (hbel.mono hle) (Nat.le_refl _))
          have haf1 := fun wz (h9 : Below w2.heap.size w2 wz) => Hhaf.out wz (m : Int) (HhTN.out.below (h9.mono hle) (Nat.le_refl _))
          have hc1 := hbm.cell m
          rw [cvals_at _ hmn, Hhcnt.out m hmn] at hc1
          have hfi := Hhafi.out m hmn
          generalize innerAt T nN (m : Int) = ib at *
          generalize afI T (m : Int) = av at *
          have Hhin1 := Lib.hid hin1; have Hhaf1 := Lib.hid haf1; have Hhbm := Lib.hid hbm; clear hin1 haf1 hbm
          go_wp2_with fail
          refine Hhin1.out.mono ?_
          rintro e w7 ⟨rfl, hb8⟩
          have hbel7 := hbel.trans (hb8.mono hbel.size)
          have hbm7 := Hhbm.out.below hb8 hbg
          have hc7 := (hb8.cell (p := ⟨w2.heap.size, m, none⟩) hbg).trans hc1
          have haf7 := Hhaf1.out w7 hbel7
          have hz7 := hb8.size
          rcases hfi with ⟨rfl, rfl⟩ | ⟨rfl, hav⟩
          · simp only [if_true] at hc7
            have Hhbm7 := Lib.hid hbm7; have Hhaf7 := Lib.hid haf7; clear hbm7 haf7
            go_wp2_with fail
            refine Hhaf7.out.mono ?_
            rintro e w8 ⟨rfl, hb9⟩
            have hbel8 := hbel7.trans (hb9.mono hbel7.size)
            have hbm8 := Hhbm7.out.below hb9 (by omega)
            have Hhbm8 := Lib.hid hbm8; clear hbm8
            go_wp2_with fail
            exact ⟨⟨m + 1, by omega, by simp, Hhbm8.out, hbel8⟩, by simp [intOf]; omega⟩
          · simp only [Bool.false_eq_true, if_false] at hc7
            have Hhbm7 := Lib.hid hbm7; have Hhaf7 := Lib.hid haf7; clear hbm7 haf7
            go_wp2_with fail
            refine Hhaf7.out.mono ?_
            rintro e w8 ⟨rfl, hb9⟩
            have hbel8 := hbel7.trans (hb9.mono hbel7.size)
            have hbm8 := Hhbm7.out.below hb9 (by omega)
            have Hhbm8 := Lib.hid hbm8; clear hbm8
            go_wp2_with fail
            exact ⟨⟨m + 1, by omega, by simp, Hhbm8.out, hbel8⟩, by simp [intOf]; omega⟩
        · obtain rfl : m = nN := by omega
          have hed1 := Hhed.out w6 (HhTN.out.below (hbel.mono hle) (Nat.le_refl _))
          rw [← Hhtl.out] at hed1
          have hfin := below_call hb5 hbel hb5.size
          have Hhbm := Lib.hid hbm; have Hhed1 := Lib.hid hed1; clear hbm hed1
          go_wp2_with fail
          refine Hhed1.out.mono ?_
          rintro e w7 ⟨⟨r7, rfl, hown7⟩, hb8⟩
          have hfin2 := hfin.trans (hb8.mono hfin.size)
          obtain ⟨A7, cap7, rfl, hc7⟩ := own_form hown7
          have Hhown7 := Lib.hid hown7; clear hown7
          go_wp2_with fail
          go_ret
          exact ⟨rfl, hfin2⟩
end Go.Proofs.Ytckkpmjkajkkmaa
