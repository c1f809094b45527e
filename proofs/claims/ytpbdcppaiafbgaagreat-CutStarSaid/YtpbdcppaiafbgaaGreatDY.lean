/- Walks: shell's Of and Count. -/
import Derived.Test.YtpbdcppaiafbgaaGreatDX
import Derived.Test.YtpbdcppaiafbgaaGreatDN
namespace Go.Proofs.YtpbdcppaiafbgaaGreat
open Go Go.RowKit Go.Words Go.Mesh

/-- What Of hands back. -/
def OfOut (w w' : World) (T : List T3) (e : Ending) : Prop := ∃ (g : Nat) (out : List Int) (C : Nat), e = .returned (.slice (some ⟨g, 0, none⟩) T.length T.length) ∧ Bk w' g 3 (ivals out) ∧ Pt T out C T.length ∧ w.heap.size ≤ g
set_option maxRecDepth 40000 in
set_option maxHeartbeats 2000000 in
theorem of_calls {w : World} {B : Nat} {tv : Value} {N : Int} {T : List T3} (h : Tab w B tv N T) (hs : Surf N T) :
    Calls Tryz.prog 34 #[tv] w fun e w' => OfOut w w' T e ∧ Below w.heap.size w w' := by
  have htr := tab_tris h
  have hopp : ∀ wz (c : Nat), Below w.heap.size w wz → c < 3 * T.length → Calls Tryz.prog 27 #[tv, .int .i64 (c : Int)] wz fun e w' => e = .returned (.int .i64 (match opp T c with | some d => (d : Int) | none => -1)) ∧ Below wz.heap.size wz w' := fun wz c hz hc => by
    have := opp_calls (h.below hz h.le) hs (c : Int)
    rw [tOpp_at hc] at this
    exact this
  have hfew := hs.tmax
  have hm1 := run_make_rep (P := Tryz.prog) 28 Tryz.underlying28 info_int rfl T.length (by omega) (by omega)
  have hbk : ∀ W : World, Bk (W.alloc (.cells (Array.replicate T.length (.int .i64 0)) 3)) W.heap.size 3 (ivals (List.replicate T.length (0 : Int))) := fun W => by
    have := Bk.new W 3 (ivals (List.replicate T.length (0 : Int)))
    rwa [show (ivals (List.replicate T.length (0 : Int))).toArray = Array.replicate T.length (.int .i64 0) by unfold ivals; rw [List.map_replicate, List.toArray_replicate]] at this
  have hk0 := hbk w
  have hd0 := (Below.refl w.heap.size w).alloc (Nat.le_refl _) (.cells (Array.replicate T.length (.int .i64 0)) 3)
  obtain ⟨g, hg⟩ : ∃ g, g = w.heap.size := ⟨_, rfl⟩
  have hz1 : g < (w.alloc (.cells (Array.replicate T.length (.int .i64 0)) 3)).heap.size := by simp; omega
  rw [← hg] at hk0
  have hge := hg.symm
  have Hh := Lib.hid h; clear h; have Hhtr := Lib.hid htr; clear htr; have Hhopp := Lib.hid hopp; clear hopp; have Hhbk := Lib.hid hbk; clear hbk; have Hhk0 := Lib.hid hk0; clear hk0; have Hhd0 := Lib.hid hd0; clear hd0; have Hhg := Lib.hid hg; clear hg; have Hhge := Lib.hid hge; clear hge
  go_enter Tryz.func34, Tryz.ntmps34
  go_wp2_with fail
  refine Hhtr.out.mono ?_
  rintro e w' ⟨rfl, rfl⟩
  go_wp2_with fail
  rw [Hhge.out]
  have hk0 := Hhk0.out
  have hd0 := Hhd0.out
  have hgw : w'.heap.size ≤ g := by rw [Hhg.out]; exact Nat.le_refl _
  clear hm1 Hhk0 Hhd0 Hhbk Hhg Hhge Hhtr
  generalize w'.alloc (.cells (Array.replicate T.length (.int .i64 0)) 3) = w1 at *
  have Hhk0 := Lib.hid hk0; clear hk0
  go_loopw [16] (fun iv wr => ∃ (k : Nat) (out : List Int), k ≤ T.length ∧ iv = .int .i64 (k : Int) ∧ out.length = T.length ∧ (∀ x, x < k → out[x]? = some (-1)) ∧ Bk wr g 3 (ivals out) ∧ Below w'.heap.size w' wr) (fun iv _ => T.length - (intOf iv).toNat)
  case atStart => exact ⟨0, List.replicate T.length 0, by omega, rfl, by simp, fun x hx => absurd hx (by omega), Hhk0.out, hd0⟩
  case round =>
    obtain ⟨k, out, hk, rfl, hlen, hfill, b1, hbel⟩ := hrel
    by_cases hkl : k < T.length
    · have hfill2 : ∀ x, x < k + 1 → (out.set k (-1))[x]? = some (-1) := fun x hx => by
        by_cases hxk : x = k
        · rw [hxk, set_same (by omega)]
        · rw [set_other hxk]; exact hfill x (by omega)
      have cz := (b1.cell k).trans (ivals_at (List.getElem?_eq_getElem (l := out) (by omega : k < out.length)))
      have fz := b1.frozen k
      have b1' := b1.set k (.int .i64 (-1))
      rw [ivals_set] at b1'
      have hbel' := hbel.setCell (p := ⟨g, k, none⟩) hgw (.int .i64 (-1))
      have hkli : (k : Int) < (T.length : Int) := by omega
      have Hb1 := Lib.hid b1; clear b1; have Hhfill := Lib.hid hfill; clear hfill; have Hhfill2 := Lib.hid hfill2; clear hfill2; have Hb1' := Lib.hid b1'; clear b1'; have Hhbel' := Lib.hid hbel'; clear hbel'
      go_wp2_with fail
      exact ⟨⟨k + 1, _, by omega, by simp, by rw [List.length_set]; exact hlen, Hhfill2.out, Hb1'.out, Hhbel'.out⟩, by simp [intOf]; omega⟩
    · obtain rfl : k = T.length := by omega
      have hpt := Pt.start hlen hfill
      have hlt1 := b1.lt
      have Hb1 := Lib.hid b1; clear b1; have Hhfill := Lib.hid hfill; clear hfill; have Hhpt := Lib.hid hpt; clear hpt
      go_wp2_with fail
      go_loopw [5, 25] (fun nv iv wr => ∃ (n p : Nat) (out : List Int), p ≤ T.length ∧ iv = .int .i64 (p : Int) ∧ nv = .int .i64 (n : Int) ∧ Pt T out n p ∧ Bk wr g 3 (ivals out) ∧ Below w'.heap.size w' wr) (fun _ iv _ => T.length - (intOf iv).toNat)
      case atStart => exact ⟨0, 0, out, by omega, rfl, rfl, Hhpt.out, Hb1.out, hbel⟩
      case round =>
        clear hbel Hb1 Hhfill Hhpt hlen hlt1 hk
        obtain ⟨n, p, out, hp, rfl, rfl, hpt, b1, hbel⟩ := hrel
        obtain ⟨w2, hw2⟩ : ∃ w2, w2 = wr := ⟨_, rfl⟩
        subst hw2
        by_cases hpl : p < T.length
        · have hpli : (p : Int) < (T.length : Int) := by omega
          obtain ⟨d, hd, hd1, hd2⟩ := hpt.val hpl
          have cp := (b1.cell p).trans (ivals_at hd)
          by_cases hneg : d < 0
          · obtain rfl : d = -1 := by omega
            have hnp := hpt.np
            have hbf := Bf.start (n := n) hpt.len hpl
            have fz := b1.frozen p
            have b1' := b1.set p (.int .i64 (n : Int))
            rw [ivals_set] at b1'
            have hbel' := hbel.setCell (p := ⟨g, p, none⟩) hgw (.int .i64 (n : Int))
            have hg1 := b1.lt
            have hone := own_one (w := w2.setCell ⟨g, p, none⟩ (.int .i64 (n : Int))) (base := g + 1) (e := 3) (.int .i64 (p : Int)) (by simp; omega)
            have b1'' := b1'.alloc (.cells #[.int .i64 (p : Int)] 3)
            have hbel'' := hbel'.alloc hbel'.size (.cells #[.int .i64 (p : Int)] 3)
            have hfin := fun out' row (hb : Bf T out out' row n p row.length 0) => hb.all hs hpt hpl hd
            have hval := fun out' row i k x (hb : Bf T out out' row n p i k) (hx : x < T.length) => hb.val hpt hx
            clear hneg
            have hsz : (w2.setCell ⟨g, p, none⟩ (.int .i64 (n : Int))).heap.size = w2.heap.size := by simp
            rw [hsz] at hone
            have hz3 : g < ((w2.setCell ⟨g, p, none⟩ (.int .i64 (n : Int))).alloc (.cells #[.int .i64 (p : Int)] 3)).heap.size := by simp; omega
            have Hb1 := Lib.hid b1; clear b1; have Hhpt := Lib.hid hpt; clear hpt; have Hhd := Lib.hid hd; clear hd; have Hhbf := Lib.hid hbf; clear hbf; have Hb1' := Lib.hid b1'; clear b1'; have Hb1'' := Lib.hid b1''; clear b1''; have Hhbel' := Lib.hid hbel'; clear hbel'; have Hhbel'' := Lib.hid hbel''; clear hbel''; have Hhone := Lib.hid hone; clear hone; have Hhfin := Lib.hid hfin; clear hfin; have Hhval := Lib.hid hval; clear hval; have Hhsz := Lib.hid hsz; clear hsz
            go_wp2_with fail
            clear cp fz
            obtain ⟨w3, hw3⟩ : ∃ w3, w3 = (w2.setCell ⟨g, p, none⟩ (.int .i64 (n : Int))).alloc (.cells #[.int .i64 (p : Int)] 3) := ⟨_, rfl⟩
            rw [← hw3] at hz3 ⊢
            have hone3 := Hhone.out
            have b3 := Hb1''.out
            have hbel3 := Hhbel''.out
            rw [← hw3] at hone3 b3 hbel3
            clear hw3 Hhone Hb1'' Hhbel'' Hb1' Hhbel' Hhsz Hb1 hbel
            have Hhone3 := Lib.hid hone3; clear hone3; have Hb3 := Lib.hid b3; clear b3
            go_loopw [7, 8] (fun rv iv wr => ∃ (i : Nat) (row : List Nat) (out' : List Int), i ≤ row.length ∧ iv = .int .i64 (i : Int) ∧ wr.ownsRow (g + 1) 3 1 rv row.length (nvals row) ∧ Bk wr g 3 (ivals out') ∧ Bf T out out' row n p i 0 ∧ Below w'.heap.size w' wr) (fun _ iv _ => T.length - (intOf iv).toNat)
            case atStart => exact ⟨0, [p], _, by omega, rfl, Hhone3.out, Hb3.out, Hhbf.out, hbel3⟩
            case round =>
              clear Hhone3 Hb3 Hhbf hbel3 hz3
              obtain ⟨i, row, out', hi, rfl, hown, b1, hbf, hbel⟩ := hrel
              obtain ⟨w4, hw4⟩ : ∃ w4, w4 = wr := ⟨_, rfl⟩
              subst hw4
              obtain ⟨A4, cap4, rfl, hc4⟩ := own_form hown
              have hfew4 := hbf.few
              by_cases hil : i < row.length
              · obtain ⟨g4, rfl⟩ := own_addrD hown (by omega)
                have hxr : row[i]? = some row[i] := List.getElem?_eq_getElem hil
                generalize row[i] = x at *
                have hii : (i : Int) < (row.length : Int) := by omega
                have Hb1 := Lib.hid b1; clear b1; have Hhbf := Lib.hid hbf; clear hbf; have Hhown := Lib.hid hown; clear hown
                go_wp2_with fail
                go_loopw [7, 45] (fun rv kv wr => ∃ (k : Nat) (row : List Nat) (out' : List Int), k ≤ 3 ∧ kv = .int .i64 (k : Int) ∧ row[i]? = some x ∧ wr.ownsRow (g + 1) 3 1 rv row.length (nvals row) ∧ Bk wr g 3 (ivals out') ∧ Bf T out out' row n p i k ∧ Below w'.heap.size w' wr) (fun _ kv _ => 3 - (intOf kv).toNat)
                case atStart => exact ⟨0, row, out', by omega, rfl, hxr, Hhown.out, Hb1.out, Hhbf.out, hbel⟩
                case round =>
                  clear Hhown Hb1 Hhbf hbel hxr hii hil hi hc4 hfew4
                  obtain ⟨k, row, out', hk, rfl, hxr, hown, b1, hbf, hbel⟩ := hrel
                  obtain ⟨w5, hw5⟩ : ∃ w5, w5 = wr := ⟨_, rfl⟩
                  subst hw5
                  have hil := (List.getElem?_eq_some_iff.1 hxr).1
                  obtain ⟨A5, cap5, rfl, hc5⟩ := own_form hown
                  obtain ⟨g5, rfl⟩ := own_addrD hown (by omega)
                  obtain ⟨cx, -, -⟩ := own_nat_at hown rfl hil
                  rw [(List.getElem?_eq_some_iff.1 hxr).2] at cx
                  have hfew5 := hbf.few
                  have hii : (i : Int) < (row.length : Int) := by omega
                  have hxm := List.mem_of_getElem? hxr
                  have hxl := hbf.lt x hxm
                  have hz5 := hbel.size
                  by_cases hk3 : k < 3
                  · have hki : (k : Int) < 3 := by omega
                    have hop := Hhopp.out w5 (3 * x + k) hbel (by omega)
                    rw [show ((3 * x + k : Nat) : Int) = 3 * (x : Int) + (k : Int) by omega] at hop
                    have hval2 := fun y (hy : y < T.length) => Hhval.out out' row i k y hbf hy
                    cases hnb : opp T (3 * x + k) with
                    | none =>
                      rw [hnb] at hop
                      have hb2 := hbf.skip hxr (fun y hy => by
                        unfold nb at hy
                        rw [hnb] at hy
                        cases hy)
                      have Hhown := Lib.hid hown; clear hown; have Hb1 := Lib.hid b1; clear b1; have Hhbf := Lib.hid hbf; clear hbf; have Hhb2 := Lib.hid hb2; clear hb2; have Hhxr := Lib.hid hxr; clear hxr; have Hhop := Lib.hid hop; clear hop; have Hhnb := Lib.hid hnb; clear hnb; have Hhval2 := Lib.hid hval2; clear hval2
                      go_wp2_with fail
                      refine Hhop.out.mono ?_
                      rintro e w6 ⟨rfl, hb6⟩
                      have hown6 := own_below Hhown.out hb6 (Nat.le_refl _)
                      have b6 := Hb1.out.below hb6 Hb1.out.lt
                      have hbel6 := hbel.trans (hb6.mono hz5)
                      clear hb6
                      have Hhown6 := Lib.hid hown6; clear hown6; have Hb6 := Lib.hid b6; clear b6
                      go_wp2_with fail
                      exact ⟨⟨k + 1, row, out', by omega, by simp, Hhxr.out, Hhown6.out, Hb6.out, Hhb2.out, hbel6⟩, by simp [intOf]; omega⟩
                    | some d =>
                      rw [hnb] at hop
                      have hnb2 : nb T x k = some (d / 3) := by unfold nb; rw [hnb]; rfl
                      have hyl := (hs.nb_rng hk3 hnb2).2
                      obtain ⟨y, hy1, hy2⟩ : ∃ y : Nat, (d : Int) / 3 = (y : Int) ∧ d / 3 = y := ⟨d / 3, by omega, rfl⟩
                      rw [hy2] at hnb2 hyl
                      clear hy2
                      obtain ⟨f, hf, hf1, hf2⟩ := hval2 y hyl
                      have hyli : (y : Int) < (T.length : Int) := by omega
                      by_cases hneg : f < 0
                      · obtain rfl : f = -1 := by omega
                        have hb2 := hbf.meet hs hk3 hxr hnb2 hf
                        have hxr2 : (row ++ [y])[i]? = some x := by rw [List.getElem?_append_left hil]; exact hxr
                        clear hneg
                        have Hhown := Lib.hid hown; clear hown; have Hb1 := Lib.hid b1; clear b1; have Hhbf := Lib.hid hbf; clear hbf; have Hhb2 := Lib.hid hb2; clear hb2; have Hhxr := Lib.hid hxr; clear hxr; have Hhxr2 := Lib.hid hxr2; clear hxr2; have Hhop := Lib.hid hop; clear hop; have Hhnb := Lib.hid hnb; clear hnb; have Hhval2 := Lib.hid hval2; clear hval2; have Hhnb2 := Lib.hid hnb2; clear hnb2
                        go_wp2_with fail
                        refine Hhop.out.mono ?_
                        rintro e w6 ⟨rfl, hb6⟩
                        have hown6 := own_below Hhown.out hb6 (Nat.le_refl _)
                        have b6 := Hb1.out.below hb6 Hb1.out.lt
                        have hbel6 := hbel.trans (hb6.mono hz5)
                        clear hb6
                        have cy := (b6.cell y).trans (ivals_at hf)
                        have fy := b6.frozen y
                        have b6' := b6.set y (.int .i64 (n : Int))
                        rw [ivals_set] at b6'
                        have hown6' := own_setcell hown6 (Nat.lt_succ_self g) y (u := .int .i64 (n : Int))
                        have hbel6' := hbel6.setCell (p := ⟨g, y, none⟩) hgw (.int .i64 (n : Int))
                        have hlt6 := b6.lt
                        have hs6 : w6.heap.size ≤ ((w6.setCell ⟨g, y, none⟩ (.int .i64 (n : Int))).alloc (.cells #[.int .i64 (y : Int)] 3)).heap.size := by simp
                        have hg6 : g + 1 ≤ ((w6.setCell ⟨g, y, none⟩ (.int .i64 (n : Int))).alloc (.cells #[.int .i64 (y : Int)] 3)).heap.size := by omega
                        have hbk6 : Bk ((w6.setCell ⟨g, y, none⟩ (.int .i64 (n : Int))).alloc (.cells #[.int .i64 (y : Int)] 3)) w6.heap.size 3 [.int .i64 (y : Int)] := Bk.new' _ _ (by simp)
                        have Hhown6 := Lib.hid hown6; clear hown6; have Hb6 := Lib.hid b6; clear b6; have Hb6' := Lib.hid b6'; clear b6'; have Hhown6' := Lib.hid hown6'; clear hown6'; have Hhbel6' := Lib.hid hbel6'; clear hbel6'; have Hhf := Lib.hid hf; clear hf; have Hhs6 := Lib.hid hs6; clear hs6; have Hhg6 := Lib.hid hg6; clear hg6; have Hhbk6 := Lib.hid hbk6; clear hbk6
                        go_wp2_with (at_builtin; refine append_block _ rfl (.tmp 72) (.tmp 75) 28 rfl (g + 1) info_int Tryz.underlying28 rfl (by decide) _ row.length (nvals row) rfl (Hhown6'.out.alloc _) w6.heap.size [.int .i64 (y : Int)] rfl Hhbk6.out rfl (by simp [Value.oneCell']) (by omega) (by omega) Hhg6.out ?_; intro v7 w7 hown7 hb7 _ _; obtain ⟨g9, cap9, rfl⟩ := ownsRow_succ hown7; have Hhown7 := Lib.hid hown7; clear hown7)
                        have b7 := (Hb6'.out.alloc (.cells #[.int .i64 (y : Int)] 3)).below hb7 (Nat.lt_succ_self g)
                        have hbel7 := (Hhbel6'.out.alloc Hhbel6'.out.size (.cells #[.int .i64 (y : Int)] 3)).trans (hb7.mono (by omega))
                        have hown8 : w7.ownsRow (g + 1) 3 1 (.slice (some ⟨g9, 0, none⟩) (row.length + 1) cap9) (row ++ [y]).length (nvals (row ++ [y])) := by
                          rw [List.length_append, List.length_singleton]
                          unfold nvals
                          rw [List.map_append]
                          exact Hhown7.out
                        exact ⟨⟨k + 1, row ++ [y], _, by omega, by simp, Hhxr2.out, hown8, b7, Hhb2.out, hbel7⟩, by simp [intOf]; omega⟩
                      · have hb2 := hbf.skip hxr (fun z hz => by
                          rw [hnb2] at hz
                          obtain rfl := Option.some.inj hz
                          rw [hf]
                          intro e
                          have := Option.some.inj e
                          omega)
                        have hf0 : 0 ≤ f := by omega
                        have Hhown := Lib.hid hown; clear hown; have Hb1 := Lib.hid b1; clear b1; have Hhbf := Lib.hid hbf; clear hbf; have Hhb2 := Lib.hid hb2; clear hb2; have Hhxr := Lib.hid hxr; clear hxr; have Hhop := Lib.hid hop; clear hop; have Hhnb := Lib.hid hnb; clear hnb; have Hhval2 := Lib.hid hval2; clear hval2; have Hhnb2 := Lib.hid hnb2; clear hnb2
                        go_wp2_with fail
                        refine Hhop.out.mono ?_
                        rintro e w6 ⟨rfl, hb6⟩
                        have hown6 := own_below Hhown.out hb6 (Nat.le_refl _)
                        have b6 := Hb1.out.below hb6 Hb1.out.lt
                        have hbel6 := hbel.trans (hb6.mono hz5)
                        clear hb6
                        have cy := (b6.cell y).trans (ivals_at hf)
                        have Hhown6 := Lib.hid hown6; clear hown6; have Hb6 := Lib.hid b6; clear b6; have Hhf := Lib.hid hf; clear hf
                        go_wp2_with fail
                        exact ⟨⟨k + 1, row, out', by omega, by simp, Hhxr.out, Hhown6.out, Hb6.out, Hhb2.out, hbel6⟩, by simp [intOf]; omega⟩
                  · obtain rfl : k = 3 := by omega
                    have hb2 := hbf.row hil
                    have Hhown := Lib.hid hown; clear hown; have Hb1 := Lib.hid b1; clear b1; have Hhbf := Lib.hid hbf; clear hbf; have Hhb2 := Lib.hid hb2; clear hb2; have Hhxr := Lib.hid hxr; clear hxr
                    go_wp2_with fail
                    exact ⟨⟨i + 1, row, out', by omega, by simp, Hhown.out, Hb1.out, Hhb2.out, hbel⟩, by simp [intOf]; omega⟩
              · obtain rfl : i = row.length := by omega
                have hpt2 := Hhfin.out out' row hbf
                have Hb1 := Lib.hid b1; clear b1; have Hhbf := Lib.hid hbf; clear hbf; have Hhown := Lib.hid hown; clear hown; have Hhpt2 := Lib.hid hpt2; clear hpt2
                go_wp2_with fail
                exact ⟨⟨n + 1, p + 1, out', by omega, by simp, by simp, Hhpt2.out, Hb1.out, hbel⟩, by simp [intOf]; omega⟩
          · have hpt2 := hpt.skip hpl (by rw [hd]; intro e; have := Option.some.inj e; omega)
            have hn0 : 0 ≤ d := by omega
            have Hb1 := Lib.hid b1; clear b1; have Hhpt := Lib.hid hpt; clear hpt; have Hhpt2 := Lib.hid hpt2; clear hpt2; have Hhd := Lib.hid hd; clear hd
            go_wp2_with fail
            exact ⟨⟨n, p + 1, out, by omega, by simp, rfl, Hhpt2.out, Hb1.out, hbel⟩, by simp [intOf]; omega⟩
        · obtain rfl : p = T.length := by omega
          have Hb1 := Lib.hid b1; clear b1; have Hhpt := Lib.hid hpt; clear hpt
          go_wp2_with fail
          go_ret
          exact ⟨⟨g, out, n, rfl, Hb1.out, Hhpt.out, hgw⟩, hbel⟩
end Go.Proofs.YtpbdcppaiafbgaaGreat
