/- Walks: ref39's beside, Far. -/
import Derived.Test.YtpmmjjbllmeneaaDK
import Derived.Deep.WholeRow
namespace Go.Mesh
theorem Surf.with_nb {N : Int} {T : List T3} (h : Surf N T) {t k : Nat} (hk : k < 3) : (dirc T (vt T (3 * t + (k + 1) % 3)) (vt T (3 * t + k))).map (· / 3) = nb T t ((k + 2) % 3) := by
  have e1 : nx (3 * t + k) = 3 * t + (k + 1) % 3 := by unfold nx; omega
  have e2 : pv (3 * t + k) = 3 * t + (k + 2) % 3 := by unfold pv; omega
  rw [← e1, h.dirc_bef]
  unfold nb bef
  rw [e2, Option.map_map, Option.map_map]
  congr 1
  funext c
  simp only [Function.comp_apply, pv_div]
end Go.Mesh
namespace Go.Proofs.Ytpmmjjbllmeneaa
open Go Go.RowKit Go.Words Go.Mesh

/-- The first k of three numbers. -/
def three (f : Nat → Int) (k : Nat) : List Value := [.int .i64 (if 0 < k then f 0 else 0), .int .i64 (if 1 < k then f 1 else 0), .int .i64 (if 2 < k then f 2 else 0)]
theorem three_get (f : Nat → Int) {k : Nat} (hk : k < 3) : (three f 3)[k]? = some (.int .i64 (f k)) := by
  have : k = 0 ∨ k = 1 ∨ k = 2 := by omega
  rcases this with rfl | rfl | rfl <;> simp [three]
theorem three_set (f : Nat → Int) {k : Nat} (hk : k < 3) : (three f k).set k (.int .i64 (f k)) = three f (k + 1) := by
  have : k = 0 ∨ k = 1 ∨ k = 2 := by omega
  rcases this with rfl | rfl | rfl <;> simp [three]
set_option maxRecDepth 20000 in
set_option maxHeartbeats 1000000 in
theorem beside_calls {w : World} {B : Nat} {sv : Value} {N : Int} {T : List T3} (hT : Sl 3 RTri w B sv T) (hB0 : B ≤ w.heap.size) (hs : Surf N T) (t : Nat) (ht : t < T.length) :
    Calls Try.prog 30 #[.agg #[.int .i64 N, sv], .int .i64 (t : Int)] w fun e w' => e = .returned (.agg (three (fun k => oi (nb T t ((k + 2) % 3))) 3).toArray) ∧ Below w.heap.size w w' := by
  obtain ⟨A, cap, rfl, hcap⟩ := hT.form
  have hfew := hs.tmax
  obtain ⟨b, o, rfl, hb, hcell⟩ := tri_cells hT ht
  have hw := fun wz (h9 : Below w.heap.size w wz) x y => with_calls (N := N) (hT.below keeps_tri (h9.mono hB0)) (by have := h9.size; omega) hfew x y
  have hf : ∀ k, k < 3 → oi ((dirc T (Mesh.vt T (3 * t + (k + 1) % 3)) (Mesh.vt T (3 * t + k))).map (· / 3)) = oi (nb T t ((k + 2) % 3)) := fun k hk => by rw [hs.with_nb hk]
  have hti : (t : Int) < (T.length : Int) := by omega
  have HhT := Lib.hid hT; clear hT; have Hhcell := Lib.hid hcell; clear hcell; have Hhw := Lib.hid hw; clear hw; have Hhf := Lib.hid hf; clear hf
  go_enter Try.func30, Try.ntmps30
  go_wp2_with fail
  obtain ⟨w0, hw0⟩ : ∃ w0, w0 = (((w.alloc (.cells #[.int .i64 N, .slice (some ⟨b, o, none⟩) T.length cap] 24)).alloc (.cells #[.int .i64 0, .int .i64 0, .int .i64 0] 53)).alloc (.cells #[.int .i64 0, .int .i64 0, .int .i64 0] 53)) := ⟨_, rfl⟩
  have hB1 : Below w.heap.size w w0 := by
    rw [hw0]; exact (((Below.refl _ w).alloc (Nat.le_refl _) _).alloc (by simp) _).alloc (by simp; omega) _
  have hk0 : Bk w0 w.heap.size 24 [.int .i64 N, .slice (some ⟨b, o, none⟩) T.length cap] := by rw [hw0]; exact ((Bk.new w _ _).alloc _).alloc _
  have hk1 : Bk w0 (w.heap.size + 1) 53 [.int .i64 0, .int .i64 0, .int .i64 0] := by rw [hw0]; exact (Bk.new' _ _ (by simp)).alloc _
  have hk2 : Bk w0 (w.heap.size + 1 + 1) 53 (three (fun k => oi (nb T t ((k + 2) % 3))) 0) := by rw [hw0]; exact Bk.new' _ _ (by simp)
  rw [← hw0]
  clear hw0
  generalize hF : (fun k => oi (nb T t ((k + 2) % 3))) = F at *
  have hf2 : ∀ k, k < 3 → oi ((dirc T (Mesh.vt T (3 * t + (k + 1) % 3)) (Mesh.vt T (3 * t + k))).map (· / 3)) = F k := fun k hk => by rw [Hhf.out k hk, ← hF]
  have Hhk0 := Lib.hid hk0; clear hk0; have Hhk1 := Lib.hid hk1; clear hk1; have Hhk2 := Lib.hid hk2; clear hk2; have HhF := Lib.hid hF; clear hF; have Hhf2 := Lib.hid hf2; clear hf2
  go_loopw [6] (fun kv wr => ∃ k : Nat, k ≤ 3 ∧ kv = .int .i64 (k : Int) ∧ Bk wr w.heap.size 24 [.int .i64 N, .slice (some ⟨b, o, none⟩) T.length cap] ∧ Bk wr (w.heap.size + 1) 53 [.int .i64 0, .int .i64 0, .int .i64 0] ∧ Bk wr (w.heap.size + 1 + 1) 53 (three F k) ∧ Below w.heap.size w wr) (fun kv _ => 3 - (intOf kv).toNat)
  case atStart => exact ⟨0, by omega, rfl, Hhk0.out, Hhk1.out, Hhk2.out, hB1⟩
  case round =>
    obtain ⟨k, hk, rfl, b0, b1, b2, hbel⟩ := hrel
    have c0 : wr.cell? ⟨w.heap.size, 0, none⟩ = some (.int .i64 N) := b0.cell 0
    have c1 : wr.cell? ⟨w.heap.size, 1, none⟩ = some (.slice (some ⟨b, o, none⟩) T.length cap) := b0.cell 1
    by_cases hk3 : k < 3
    · have hbw : b < wr.heap.size := by have := hbel.size; omega
      have k1 := (hbel.cell (p := ⟨b, o + t * 3 + (k + 1) % 3, none⟩) (by show b < _; omega)).trans (Hhcell.out ((k + 1) % 3) (by omega))
      have k2 := (hbel.cell (p := ⟨b, o + t * 3 + k, none⟩) (by show b < _; omega)).trans (Hhcell.out k hk3)
      obtain ⟨k9, hk9, hk9b⟩ : ∃ k9 : Nat, ((k : Int) + 1) % 3 = (k9 : Int) ∧ (k + 1) % 3 = k9 := ⟨(k + 1) % 3, by omega, rfl⟩
      have hk93 : k9 < 3 := by omega
      have hf2 := Hhf2.out k hk3
      rw [hk9b] at k1 hf2
      have hws := fun wz h9 => Hhw.out wz h9 (Mesh.vt T (3 * t + k9)) (Mesh.vt T (3 * t + k))
      simp only [hf2] at hws
      generalize Mesh.vt T (3 * t + k9) = x at *
      generalize Mesh.vt T (3 * t + k) = y at *
      have hki : (k : Int) < 3 := by omega
      have Hb0 := Lib.hid b0; clear b0; have Hb1 := Lib.hid b1; clear b1; have Hb2 := Lib.hid b2; clear b2; have Hhk9b := Lib.hid hk9b; clear hk9b; have Hhf2 := Lib.hid hf2; clear hf2; have Hhws := Lib.hid hws; clear hws
      go_wp2_with fail
      refine Go.Canon.wp_region_text mixed (by kernel_rfl) ?_
      go_wp2_with fail
      refine (Hhws.out wr.drew hbel.drew).mono ?_
      rintro e w1 ⟨rfl, hb1⟩
      have hbel1 : Below w.heap.size w w1 := hbel.drew.trans (hb1.mono hbel.drew.size)
      have d0 := Hb0.out.drew.below hb1 Hb0.out.lt
      have d1 := Hb1.out.drew.below hb1 Hb1.out.lt
      have d2 := Hb2.out.drew.below hb1 Hb2.out.lt
      obtain ⟨u, hu⟩ : ∃ u, (three F k)[k]? = some u := ⟨_, List.getElem?_eq_getElem (by simp [three]; omega)⟩
      have cz := (d2.cell k).trans hu
      have fz := d2.frozen k
      have d2' := d2.set k (.int .i64 (F k))
      rw [three_set F hk3] at d2'
      have d0' := d0.far (p := ⟨w.heap.size + 1 + 1, k, none⟩) (by simp only; omega) (.int .i64 (F k))
      have d1' := d1.far (p := ⟨w.heap.size + 1 + 1, k, none⟩) (by simp only; omega) (.int .i64 (F k))
      have hbel2 := hbel1.setCell (p := ⟨w.heap.size + 1 + 1, k, none⟩) (by show w.heap.size ≤ w.heap.size + 1 + 1; omega) (.int .i64 (F k))
      generalize F k = fk at *
      have Hd0 := Lib.hid d0; clear d0; have Hd1 := Lib.hid d1; clear d1; have Hd2 := Lib.hid d2; clear d2; have Hhu := Lib.hid hu; clear hu; have Hd2' := Lib.hid d2'; clear d2'; have Hd0' := Lib.hid d0'; clear d0'; have Hd1' := Lib.hid d1'; clear d1'; have Hhbel2 := Lib.hid hbel2; clear hbel2
      go_wp2_with fail
      refine Go.Canon.chk (by rfl) ?_
      go_wp2_with fail
      exact ⟨⟨k + 1, by omega, by simp, Hd0'.out, Hd1'.out, Hd2'.out, Hhbel2.out⟩, by simp [intOf]; omega⟩
    · obtain rfl : k = 3 := by omega
      have e0 : wr.cell? ⟨w.heap.size + 1 + 1, 0, none⟩ = some (.int .i64 (F 0)) := b2.cell 0
      have e1 : wr.cell? ⟨w.heap.size + 1 + 1, 1, none⟩ = some (.int .i64 (F 1)) := b2.cell 1
      have e2 : wr.cell? ⟨w.heap.size + 1 + 1, 2, none⟩ = some (.int .i64 (F 2)) := b2.cell 2
      have z0 : wr.cell? ⟨w.heap.size + 1, 0, none⟩ = some (.int .i64 0) := b1.cell 0
      have z1 : wr.cell? ⟨w.heap.size + 1, 1, none⟩ = some (.int .i64 0) := b1.cell 1
      have z2 : wr.cell? ⟨w.heap.size + 1, 2, none⟩ = some (.int .i64 0) := b1.cell 2
      have f0 := b1.frozen 0
      have f1 := b1.frozen 1
      have f2 := b1.frozen 2
      have hb9 := ((b1.set 0 (.int .i64 (F 0))).set 1 (.int .i64 (F 1))).set 2 (.int .i64 (F 2))
      have hbel9 := ((hbel.setCell (p := ⟨w.heap.size + 1, 0, none⟩) (by show w.heap.size ≤ w.heap.size + 1; omega) (.int .i64 (F 0))).setCell (p := ⟨w.heap.size + 1, 1, none⟩) (by show w.heap.size ≤ w.heap.size + 1; omega) (.int .i64 (F 1))).setCell (p := ⟨w.heap.size + 1, 2, none⟩) (by show w.heap.size ≤ w.heap.size + 1; omega) (.int .i64 (F 2))
      have Hb0 := Lib.hid b0; clear b0; have Hb1 := Lib.hid b1; clear b1; have Hb2 := Lib.hid b2; clear b2; have Hhb9 := Lib.hid hb9; clear hb9; have Hhbel9 := Lib.hid hbel9; clear hbel9
      go_wp2_with fail
      exact ret_cell rfl rfl Hhb9.out Try.underlying53 rfl (by kernel_rfl) rfl ⟨by rw [HhF.out]; rfl, Hhbel9.out⟩
/-- The seeds of the first k are told. -/
def Told (S : List Nat) (n : Nat) (far : List Int) (k : Nat) : Prop := far.length = n ∧ ∀ x, x < n → far[x]? = some (if x ∈ S.take k then 0 else -1)
theorem Told.tell {S : List Nat} {n : Nat} {far : List Int} {k s : Nat} (h : Told S n far k) (hs : S[k]? = some s) (hsn : s < n) : Told S n (far.set s 0) (k + 1) := by
  obtain ⟨h1, h2⟩ := h
  obtain ⟨hk, hk2⟩ := List.getElem?_eq_some_iff.1 hs
  refine ⟨by rw [List.length_set]; exact h1, fun x hx => ?_⟩
  rw [List.take_succ_eq_append_getElem hk, hk2]
  by_cases hxs : x = s
  · subst hxs
    rw [set_same (by omega), if_pos (by simp)]
  · rw [set_other hxs, h2 x hx]
    simp [hxs]
set_option maxRecDepth 40000 in
set_option maxHeartbeats 2000000 in
theorem reffar_calls {w : World} {B B2 : Nat} {sv lv : Value} {N : Int} {T : List T3} {S : List Nat} (hT : Sl 3 RTri w B sv T) (hB0 : B ≤ w.heap.size) (hs : Surf N T) (hl : Sl 1 RInt w B2 lv (S.map fun n : Nat => (n : Int))) (hB2 : B2 ≤ w.heap.size) (hSl : ∀ s ∈ S, s < T.length) (hSn : S.length ≤ 1000000) :
    Calls Try.prog 19 #[.agg #[.int .i64 N, sv], lv] w fun e w' => (∃ g : Nat, e = .returned (.slice (some ⟨g, 0, none⟩) T.length T.length) ∧ Bk w' g 3 (ivals (distL T S)) ∧ w.heap.size ≤ g) ∧ Below w.heap.size w w' := by
  obtain ⟨A, cap, rfl, hcap⟩ := hT.form
  obtain ⟨A2, cap2, rfl, hcap2⟩ := hl.form
  rw [List.length_map] at hcap2 ⊢
  have hfew := hs.tmax
  have hbs := fun wz (h9 : Below w.heap.size w wz) t ht => beside_calls (N := N) (hT.below keeps_tri (h9.mono hB0)) (by have := h9.size; omega) hs t ht
  have hm1 := run_make_rep (P := Try.prog) 28 Try.underlying28 info_int rfl T.length (by omega) (by omega)
  have hbk : ∀ W : World, Bk (W.alloc (.cells (Array.replicate T.length (.int .i64 0)) 3)) W.heap.size 3 (ivals (List.replicate T.length (0 : Int))) := fun W => by
    have := Bk.new W 3 (ivals (List.replicate T.length (0 : Int)))
    rwa [show (ivals (List.replicate T.length (0 : Int))).toArray = Array.replicate T.length (.int .i64 0) by unfold ivals; rw [List.map_replicate, List.toArray_replicate]] at this
  have hbox := Bk.new w 24 [.int .i64 N, .slice A T.length cap]
  have hb1 := (Below.refl w.heap.size w).alloc (Nat.le_refl _) (.cells #[.int .i64 N, .slice A T.length cap] 24)
  have c0 := hbox.cell 0
  have c1 := hbox.cell 1
  simp only [List.getElem?_cons_zero, List.getElem?_cons_succ] at c0 c1
  have hz0 : (w.alloc (.cells #[.int .i64 N, .slice A T.length cap] 24)).heap.size = w.heap.size + 1 := by simp
  generalize hw0 : w.alloc (.cells #[.int .i64 N, .slice A T.length cap] 24) = w0 at *
  have hbk0 := hbk w0
  have hd1 := (Below.refl w0.heap.size w0).alloc (Nat.le_refl _) (.cells (Array.replicate T.length (.int .i64 0)) 3)
  obtain ⟨gf, hgf⟩ : ∃ gf, gf = w0.heap.size := ⟨_, rfl⟩
  have eg1 : w.heap.size + 1 = gf := by omega
  rw [← hgf] at hbk0
  have HhT := Lib.hid hT; clear hT; have Hhl := Lib.hid hl; clear hl; have Hhbs := Lib.hid hbs; clear hbs; have Hhbox := Lib.hid hbox; clear hbox; have Hhbk := Lib.hid hbk; clear hbk; have Hhbk0 := Lib.hid hbk0; clear hbk0; have Hhd1 := Lib.hid hd1; clear hd1; have Heg1 := Lib.hid eg1; clear eg1
  go_enter Try.func19, Try.ntmps19
  go_wp2_with fail
  clear hw0 hm1
  rw [Heg1.out]
  generalize hw1 : w0.alloc (.cells (Array.replicate T.length (.int .i64 0)) 3) = w1 at *
  have hbx1 : Bk w1 w.heap.size 24 [.int .i64 N, .slice A T.length cap] := Hhbox.out.below Hhd1.out (by omega)
  have hbw1 : Below w.heap.size w w1 := hb1.trans (Hhd1.out.mono (by omega))
  have hk1 := Hhbk0.out
  clear hw1 Hhbk0 Hhd1 Hhbk Heg1
  obtain ⟨hgw, hgb⟩ : w.heap.size < gf ∧ w.heap.size ≤ gf := by omega
  clear hb1 c0 c1 Hhbox hz0 hgf
  have Hhbx1 := Lib.hid hbx1; clear hbx1; have Hhk1 := Lib.hid hk1; clear hk1
  go_loopw [6] (fun iv wr => ∃ (k : Nat) (far : List Int), k ≤ T.length ∧ iv = .int .i64 (k : Int) ∧ far.length = T.length ∧ (∀ x, x < k → far[x]? = some (-1)) ∧ Bk wr w.heap.size 24 [.int .i64 N, .slice A T.length cap] ∧ Bk wr gf 3 (ivals far) ∧ Below w.heap.size w wr) (fun iv _ => T.length - (intOf iv).toNat)
  case atStart => exact ⟨0, List.replicate T.length 0, by omega, rfl, by simp, fun x hx => absurd hx (by omega), Hhbx1.out, Hhk1.out, hbw1⟩
  case round =>
    obtain ⟨k, far, hk, rfl, hlen, hfill, b0, b1, hbel⟩ := hrel
    by_cases hkl : k < T.length
    · have hfill2 : ∀ x, x < k + 1 → (far.set k (-1))[x]? = some (-1) := fun x hx => by
        by_cases hxk : x = k
        · rw [hxk, set_same (by omega)]
        · rw [set_other hxk]; exact hfill x (by omega)
      have cz := (b1.cell k).trans (ivals_at (List.getElem?_eq_getElem (l := far) (by omega : k < far.length)))
      have fz := b1.frozen k
      have b1' := b1.set k (.int .i64 (-1))
      rw [ivals_set] at b1'
      have b0' := b0.far (p := ⟨gf, k, none⟩) (by simp only; omega) (.int .i64 (-1))
      have hbel' := hbel.setCell (p := ⟨gf, k, none⟩) hgb (.int .i64 (-1))
      have hkli : (k : Int) < (T.length : Int) := by omega
      have Hb0 := Lib.hid b0; clear b0; have Hb1 := Lib.hid b1; clear b1; have Hhfill := Lib.hid hfill; clear hfill; have Hhfill2 := Lib.hid hfill2; clear hfill2; have Hb1' := Lib.hid b1'; clear b1'; have Hb0' := Lib.hid b0'; clear b0'; have Hhbel' := Lib.hid hbel'; clear hbel'
      go_wp2_with fail
      exact ⟨⟨k + 1, _, by omega, by simp, by rw [List.length_set]; exact hlen, Hhfill2.out, Hb0'.out, Hb1'.out, Hhbel'.out⟩, by simp [intOf]; omega⟩
    · obtain rfl : k = T.length := by omega
      have htold : Told S T.length far 0 := ⟨hlen, fun x hx => by rw [hfill x hx]; simp⟩
      have Hb0 := Lib.hid b0; clear b0; have Hb1 := Lib.hid b1; clear b1; have Hhfill := Lib.hid hfill; clear hfill; have Hhtold := Lib.hid htold; clear htold
      go_wp2_with fail
      go_loopw [7] (fun iv wr => ∃ (k : Nat) (far : List Int), k ≤ S.length ∧ iv = .int .i64 (k : Int) ∧ Told S T.length far k ∧ Bk wr w.heap.size 24 [.int .i64 N, .slice A T.length cap] ∧ Bk wr gf 3 (ivals far) ∧ Below w.heap.size w wr) (fun iv _ => S.length - (intOf iv).toNat)
      case atStart => exact ⟨0, far, by omega, rfl, Hhtold.out, Hb0.out, Hb1.out, hbel⟩
      case round =>
        clear hbel Hb0 Hb1 Hhfill Hhtold hlen
        obtain ⟨k, far, hk, rfl, htold, b0, b1, hbel⟩ := hrel
        have hlen := htold.1
        by_cases hkl : k < S.length
        · obtain ⟨b, o, rfl, hb, c1⟩ := (Hhl.out.below keeps_int (hbel.mono hB2)).int_at (k := k) (by rw [List.length_map]; exact hkl)
          rw [List.getElem_map] at c1
          have hsl := hSl S[k] (List.getElem_mem hkl)
          have htold2 := htold.tell (List.getElem?_eq_getElem hkl) hsl
          generalize S[k] = s at *
          have cz := (b1.cell s).trans (ivals_at (List.getElem?_eq_getElem (l := far) (by omega : s < far.length)))
          have fz := b1.frozen s
          have b1' := b1.set s (.int .i64 0)
          rw [ivals_set] at b1'
          have b0' := b0.far (p := ⟨gf, s, none⟩) (by simp only; omega) (.int .i64 0)
          have hbel' := hbel.setCell (p := ⟨gf, s, none⟩) hgb (.int .i64 0)
          have hkli : (k : Int) < (S.length : Int) := by omega
          have hsli : (s : Int) < (T.length : Int) := by omega
          have Hb0 := Lib.hid b0; clear b0; have Hb1 := Lib.hid b1; clear b1; have Hhtold := Lib.hid htold; clear htold; have Hhtold2 := Lib.hid htold2; clear htold2; have Hb1' := Lib.hid b1'; clear b1'; have Hb0' := Lib.hid b0'; clear b0'; have Hhbel' := Lib.hid hbel'; clear hbel'
          go_wp2_with fail
          exact ⟨⟨k + 1, _, by omega, by simp, Hhtold2.out, Hb0'.out, Hb1'.out, Hhbel'.out⟩, by simp [intOf]; omega⟩
        · obtain rfl : k = S.length := by omega
          have hfr : Fr T S far 0 0 0 := Fr.start hSl hlen fun x hx => by
            have := htold.2 x hx
            rw [List.take_length] at this
            exact ⟨fun h => by rw [this, if_pos h], fun h => by rw [this, if_neg h]⟩
          have Hb0 := Lib.hid b0; clear b0; have Hb1 := Lib.hid b1; clear b1; have Hhtold := Lib.hid htold; clear htold; have Hhfr := Lib.hid hfr; clear hfr
          go_wp2_with fail
          go_loopw [8] (fun iv wr => ∃ (r : Nat) (far : List Int), r ≤ T.length ∧ iv = .int .i64 (r : Int) ∧ Fr T S far r 0 0 ∧ Bk wr w.heap.size 24 [.int .i64 N, .slice A T.length cap] ∧ Bk wr gf 3 (ivals far) ∧ Below w.heap.size w wr) (fun iv _ => T.length - (intOf iv).toNat)
          case atStart => exact ⟨0, far, by omega, rfl, Hhfr.out, Hb0.out, Hb1.out, hbel⟩
          case round =>
            clear hbel Hb0 Hb1 Hhtold Hhfr hlen
            obtain ⟨r, far, hr, rfl, hfr, b0, b1, hbel⟩ := hrel
            have bx0 := b0.cell 0
            have bx1 := b0.cell 1
            simp only [List.getElem?_cons_zero, List.getElem?_cons_succ] at bx0 bx1
            by_cases hrl : r < T.length
            · have hrli : (r : Int) < (T.length : Int) := by omega
              have Hb0 := Lib.hid b0; clear b0; have Hb1 := Lib.hid b1; clear b1; have Hhfr := Lib.hid hfr; clear hfr
              go_wp2_with fail
              go_loopw [9] (fun iv wr => ∃ (t : Nat) (far : List Int), t ≤ T.length ∧ iv = .int .i64 (t : Int) ∧ Fr T S far r t 0 ∧ Bk wr w.heap.size 24 [.int .i64 N, .slice A T.length cap] ∧ Bk wr gf 3 (ivals far) ∧ Below w.heap.size w wr) (fun iv _ => T.length - (intOf iv).toNat)
              case atStart => exact ⟨0, far, by omega, rfl, Hhfr.out, Hb0.out, Hb1.out, hbel⟩
              case round =>
                clear hbel Hb0 Hb1 Hhfr bx0 bx1
                obtain ⟨t, far, ht, rfl, hfr, b0, b1, hbel⟩ := hrel
                have bx0 := b0.cell 0
                have bx1 := b0.cell 1
                simp only [List.getElem?_cons_zero, List.getElem?_cons_succ] at bx0 bx1
                by_cases htl : t < T.length
                · have htli : (t : Int) < (T.length : Int) := by omega
                  by_cases hdt : Dist T S t r
                  · have cz := (b1.cell t).trans (ivals_at ((hfr.at_ htl).2 hdt))
                    have hbc := Hhbs.out wr hbel t htl
                    have Hb0 := Lib.hid b0; clear b0; have Hb1 := Lib.hid b1; clear b1; have Hhfr := Lib.hid hfr; clear hfr; have Hhdt := Lib.hid hdt; clear hdt; have Hhbc := Lib.hid hbc; clear hbc
                    go_wp2_with fail
                    refine Hhbc.out.mono ?_
                    clear Hhbc cz bx0 bx1
                    rintro e w1 ⟨rfl, hb1⟩
                    have hbel1 := hbel.trans (hb1.mono hbel.size)
                    have d0 := Hb0.out.below hb1 Hb0.out.lt
                    have d1 := Hb1.out.below hb1 Hb1.out.lt
                    generalize hF : (fun k => oi (nb T t ((k + 2) % 3))) = F at *
                    clear hb1
                    have hst : (storeCells ⟨w1.heap.size, 0, none⟩ (three F 3) 0).run Try.prog (w1.alloc (.cells #[.int .i64 0, .int .i64 0, .int .i64 0] 53)) = .ok () (w1.alloc (.cells (three F 3).toArray 53)) := run_storeCells_new w1 53 #[.int .i64 0, .int .i64 0, .int .i64 0] (three F 3).toArray rfl rfl (by simp [three, Value.oneCell'])
                    have hx10 : Bk (w1.alloc (.cells (three F 3).toArray 53)) w1.heap.size 53 (three F 3) := Bk.new w1 _ _
                    have d0' := d0.alloc (.cells (three F 3).toArray 53)
                    have d1' := d1.alloc (.cells (three F 3).toArray 53)
                    have hbel2 := hbel1.alloc hbel1.size (.cells (three F 3).toArray 53)
                    have hg1 := Nat.ne_of_lt d1.lt
                    have Hd0 := Lib.hid d0; clear d0; have Hd1 := Lib.hid d1; clear d1; have HhF := Lib.hid hF; clear hF; have Hhx10 := Lib.hid hx10; clear hx10; have Hd0' := Lib.hid d0'; clear d0'; have Hd1' := Lib.hid d1'; clear d1'; have Hhbel2 := Lib.hid hbel2; clear hbel2
                    go_wp2_with fail
                    clear hst hbel1 Hd0 Hd1
                    generalize w1.alloc (.cells (three F 3).toArray 53) = w2 at *
                    generalize w1.heap.size = g at *
                    go_loopw [11] (fun iv wr => ∃ (k : Nat) (far : List Int), k ≤ 3 ∧ iv = .int .i64 (k : Int) ∧ Fr T S far r t k ∧ Bk wr w.heap.size 24 [.int .i64 N, .slice A T.length cap] ∧ Bk wr gf 3 (ivals far) ∧ Bk wr g 53 (three F 3) ∧ Below w.heap.size w wr) (fun iv _ => 3 - (intOf iv).toNat)
                    case atStart => exact ⟨0, far, by omega, rfl, Hhfr.out, Hd0'.out, Hd1'.out, Hhx10.out, Hhbel2.out⟩
                    case round =>
                      clear Hd0' Hd1' Hhx10 Hhfr Hhbel2
                      obtain ⟨k, far, hk, rfl, hfr, b0, b1, b2, hbel⟩ := hrel
                      by_cases hk3 : k < 3
                      · have hFk : F k = oi (nb T t ((k + 2) % 3)) := by rw [← HhF.out]
                        have ck := (b2.cell k).trans (three_get F hk3)
                        rw [hFk] at ck
                        have hkli : (k : Int) < 3 := by omega
                        cases hn : nb T t ((k + 2) % 3) with
                        | none =>
                          rw [hn, show oi none = (-1 : Int) from rfl] at ck
                          have hfr2 := hfr.skip (fun x hx => by rw [hn] at hx; cases hx)
                          have Hb0 := Lib.hid b0; clear b0; have Hb1 := Lib.hid b1; clear b1; have Hb2 := Lib.hid b2; clear b2; have Hhfr := Lib.hid hfr; clear hfr; have HhFk := Lib.hid hFk; clear hFk; have Hhn := Lib.hid hn; clear hn; have Hhfr2 := Lib.hid hfr2; clear hfr2
                          go_wp2_with fail
                          exact ⟨⟨k + 1, far, by omega, by simp, Hhfr2.out, Hb0.out, Hb1.out, Hb2.out, hbel⟩, by simp [intOf]; omega⟩
                        | some y =>
                          rw [hn, show oi (some y) = (y : Int) from rfl] at ck
                          have hyl := (hs.nb_rng (by omega : (k + 2) % 3 < 3) hn).2
                          obtain ⟨d, hd, hd1, hd2⟩ := hfr.val hyl
                          have cy := (b1.cell y).trans (ivals_at hd)
                          have hyli : (y : Int) < (T.length : Int) := by omega
                          by_cases hneg : d < 0
                          · obtain rfl : d = -1 := by omega
                            have hfr2 := hfr.mark hs hk3 (Hhdt.out) hn hd
                            have fz := b1.frozen y
                            have b1' := b1.set y (.int .i64 ((r : Int) + 1))
                            rw [ivals_set] at b1'
                            have b0' := b0.far (p := ⟨gf, y, none⟩) (by simp only; omega) (.int .i64 ((r : Int) + 1))
                            have b2' := b2.far (p := ⟨gf, y, none⟩) (by simp only; omega) (.int .i64 ((r : Int) + 1))
                            have hbel' := hbel.setCell (p := ⟨gf, y, none⟩) hgb (.int .i64 ((r : Int) + 1))
                            have Hb0 := Lib.hid b0; clear b0; have Hb1 := Lib.hid b1; clear b1; have Hb2 := Lib.hid b2; clear b2; have Hhfr := Lib.hid hfr; clear hfr; have HhFk := Lib.hid hFk; clear hFk; have Hhn := Lib.hid hn; clear hn; have Hhfr2 := Lib.hid hfr2; clear hfr2; have Hb0' := Lib.hid b0'; clear b0'; have Hb1' := Lib.hid b1'; clear b1'; have Hb2' := Lib.hid b2'; clear b2'; have Hhd := Lib.hid hd; clear hd; have Hhbel' := Lib.hid hbel'; clear hbel'
                            go_wp2_with fail
                            exact ⟨⟨k + 1, _, by omega, by simp, Hhfr2.out, Hb0'.out, Hb1'.out, Hb2'.out, Hhbel'.out⟩, by simp [intOf]; omega⟩
                          · have hfr2 := hfr.skip (fun x hx => by
                              rw [hn] at hx
                              obtain rfl := Option.some.inj hx
                              rw [hd]
                              intro e
                              have := Option.some.inj e
                              omega)
                            have Hb0 := Lib.hid b0; clear b0; have Hb1 := Lib.hid b1; clear b1; have Hb2 := Lib.hid b2; clear b2; have Hhfr := Lib.hid hfr; clear hfr; have HhFk := Lib.hid hFk; clear hFk; have Hhn := Lib.hid hn; clear hn; have Hhfr2 := Lib.hid hfr2; clear hfr2; have Hhd := Lib.hid hd; clear hd
                            go_wp2_with fail
                            exact ⟨⟨k + 1, far, by omega, by simp, Hhfr2.out, Hb0.out, Hb1.out, Hb2.out, hbel⟩, by simp [intOf]; omega⟩
                      · obtain rfl : k = 3 := by omega
                        have hfr2 := hfr.row
                        have Hb0 := Lib.hid b0; clear b0; have Hb1 := Lib.hid b1; clear b1; have Hb2 := Lib.hid b2; clear b2; have Hhfr := Lib.hid hfr; clear hfr; have Hhfr2 := Lib.hid hfr2; clear hfr2
                        go_wp2_with fail
                        exact ⟨⟨t + 1, far, by omega, by simp, Hhfr2.out, Hb0.out, Hb1.out, hbel⟩, by simp [intOf]; omega⟩
                  · obtain ⟨d, hd, hd1, hd2⟩ := hfr.val htl
                    have hdr : d ≠ (r : Int) := fun e => hdt ((hfr.at_ htl).1 (e ▸ hd))
                    have cz := (b1.cell t).trans (ivals_at hd)
                    have hfr2 := hfr.pass hdt
                    have Hb0 := Lib.hid b0; clear b0; have Hb1 := Lib.hid b1; clear b1; have Hhfr := Lib.hid hfr; clear hfr; have Hhfr2 := Lib.hid hfr2; clear hfr2; have Hhd := Lib.hid hd; clear hd
                    go_wp2_with fail
                    exact ⟨⟨t + 1, _, by omega, by simp, Hhfr2.out, Hb0.out, Hb1.out, hbel⟩, by simp [intOf]; omega⟩
                · obtain rfl : t = T.length := by omega
                  have hfr2 := hfr.next hs
                  have Hb0 := Lib.hid b0; clear b0; have Hb1 := Lib.hid b1; clear b1; have Hhfr := Lib.hid hfr; clear hfr; have Hhfr2 := Lib.hid hfr2; clear hfr2
                  go_wp2_with fail
                  exact ⟨⟨r + 1, _, by omega, by simp, Hhfr2.out, Hb0.out, Hb1.out, hbel⟩, by simp [intOf]; omega⟩
            · obtain rfl : r = T.length := by omega
              have hfa := hfr.all hs hSl
              subst hfa
              have Hb0 := Lib.hid b0; clear b0; have Hb1 := Lib.hid b1; clear b1; have Hhfr := Lib.hid hfr; clear hfr
              go_wp2_with fail
              go_ret
              exact ⟨⟨gf, rfl, Hb1.out, hgb⟩, hbel⟩
end Go.Proofs.Ytpmmjjbllmeneaa
