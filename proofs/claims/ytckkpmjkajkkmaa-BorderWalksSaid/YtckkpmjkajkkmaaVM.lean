/- The law BorderWalks, walked. -/
import Derived.Test.YtckkpmjkajkkmaaBU
import Derived.Test.YtckkpmjkajkkmaaBV
import Derived.Test.YtckkpmjkajkkmaaTU
import Derived.Shelf.Abstract
namespace Go.Words
open Go Go.RowKit
theorem results_bool {P : Program} {fn : Func} {p : Tmp} {ty : TypeId} {d : TypeDesc} (h : fn.results = #[.cell p ty]) {tmps : Array Value} {w : World} {g : Nat} {b : Bool} (hp : tmps.getD p undef = .pointer (some ⟨g, 0, none⟩))
    (hd : (match d with | .struct _ | .array _ _ => true | _ => false) = false) (hu : P.underlying ty = some d) (hc : w.cell? ⟨g, 0, none⟩ = some (.bool b)) : (results fn tmps).run P w = .ok (.bool b) w := by
  have hp' : tmps[p]?.getD undef = .pointer (some ⟨g, 0, none⟩) := by simpa using hp
  simp [results, h, hp', asAddr, loadVar, Proofs.run_isAgg_plain hu (by cases d <;> first | rfl | cases hd) w, hc]
end Go.Words
namespace Go.Proofs.Ytckkpmjkajkkmaa
open Go Go.RowKit Go.Words Go.Mesh
attribute [local go_sem] Oper.semAt_some

set_option maxRecDepth 100000 in
set_option maxHeartbeats 4000000 in
theorem bwalks_law (sv : Value) (N : Int) (T : List T3) (v : Int) (f : Nat) (w : World) {B : Nat} (hB0 : B ≤ w.heap.size) (hT : Sl 3 RTri w B sv T) (hN : I64 N) (hv9 : I64 v) (hf : f < 256) :
    Calls Try.prog 7 #[.agg #[.int .i64 N, sv], .int .i64 v, .int .u8 (f : Int)] w fun e w' => e = .returned (.bool true) ∧ Below w.heap.size w w' := by
  refine (callsIn_wide (n := 9)).1 ?_
  obtain ⟨A, cap, rfl, hcap⟩ := hT.form
  refine callsIn_of_wp_marks Try.func7 rfl trivial ?_ rfl
  simp only [Try.ntmps7, List.size_toArray, List.length_cons, List.length_nil, Nat.reduceAdd, Nat.reduceSub, Array.replicate_succ, Array.replicate_zero, List.push_toArray, List.append_toArray, List.nil_append, List.cons_append]
  have HhT := Lib.hid hT; clear hT
  gi_wp2_with fail
  obtain ⟨gb, hgb⟩ : ∃ gb, gb = w.heap.size := ⟨_, rfl⟩
  rw [← hgb]
  obtain ⟨w0, hw0⟩ : ∃ w0, w0 = ((w.alloc (.cells #[.int .i64 N, .slice A T.length cap] 24)).alloc (.cells #[.int .u8 (f : Int)] 5)).alloc (.cells #[.bool false] 4) := ⟨_, rfl⟩
  have hB1 : Below w.heap.size w w0 := by
    rw [hw0]; exact (((Below.refl _ w).alloc (Nat.le_refl _) _).alloc (by simp) _).alloc (by simp; omega) _
  have b1 : Bk w0 gb 24 [.int .i64 N, .slice A T.length cap] := by rw [hw0]; exact ((Bk.new' _ _ hgb).alloc _).alloc _
  have b2 : Boxed w0 (gb + 1) 5 (.int .u8 (f : Int)) := by rw [hw0]; exact (boxed_new' (by simp [hgb]) _ _).alloc _
  have b3 : Boxed w0 (gb + 1 + 1) 4 (.bool false) := by rw [hw0]; exact boxed_new' (by simp [hgb]) _ _
  have hsz : w0.heap.size = gb + 3 := by rw [hw0]; simp [hgb]
  have hTA := HhT.out.below keeps_tri (hB1.mono hB0)
  have hBg : B ≤ gb := by omega
  rw [← hw0]
  clear hw0
  have hset : ∀ (W : World) (b : Bool), Below w0.heap.size w0 W → Below w.heap.size w (W.setCell ⟨gb + 1 + 1, 0, none⟩ (.bool b)) ∧ (W.setCell ⟨gb + 1 + 1, 0, none⟩ (.bool b)).cell? ⟨gb + 1 + 1, 0, none⟩ = some (.bool b) := fun W b h => by
    have h9 : Boxed W (gb + 1 + 1) 4 (.bool false) := (h.block _ (by omega)).trans b3
    exact ⟨(hB1.trans (h.mono hB1.size)).setCell (p := ⟨gb + 1 + 1, 0, none⟩) (by show w.heap.size ≤ gb + 1 + 1; omega) _, (h9.set (.bool b)).cell⟩
  have hbx : ∀ W, Below w0.heap.size w0 W → Bk W gb 24 [.int .i64 N, .slice A T.length cap] ∧ Boxed W (gb + 1) 5 (.int .u8 (f : Int)) ∧ Boxed W (gb + 1 + 1) 4 (.bool false) := fun W h => ⟨(h.block _ (by omega)).trans b1, (h.block _ (by omega)).trans b2, (h.block _ (by omega)).trans b3⟩
  have hgs : gb < w0.heap.size ∧ B ≤ w0.heap.size ∧ gb + 1 + 1 < w0.heap.size ∧ w.heap.size = gb := by omega
  have Hhgb := Lib.hid hgb; have Hhsz := Lib.hid hsz; have Hb1 := Lib.hid b1; have Hb2 := Lib.hid b2; have Hb3 := Lib.hid b3; have HhTA := Lib.hid hTA; have Hhset := Lib.hid hset; have Hhbx := Lib.hid hbx; clear hgb hsz b1 b2 b3 hTA hset hbx
  refine ⟨trivial, (callsIn_wide.2 (awake12_calls w0)).mono ?_⟩
  rintro e w1 ⟨rfl, hb2⟩
  obtain ⟨x1, x2, x3⟩ := Hhbx.out w1 hb2
  have c0 : w1.cell? ⟨gb, 0, none⟩ = some (.int .i64 N) := x1.cell 0
  have c1 : w1.cell? ⟨gb, 1, none⟩ = some (.slice A T.length cap) := x1.cell 1
  have hz1 := hb2.size
  have hT1 := HhTA.out.below keeps_tri (hb2.mono hgs.2.1)
  have htb := table12_calls hT1 (by omega) hN
  clear x1 x2 x3
  have HhT1 := Lib.hid hT1; have Hhtb := Lib.hid htb; clear hT1 htb
  gi_wp2_with fail
  refine ⟨trivial, (callsIn_wide.2 Hhtb.out).mono ?_⟩
  clear c0 c1
  rintro e w2 ⟨⟨tv, B', rfl, hor⟩, hb4⟩
  have hb5 := hb2.trans (hb4.mono hz1)
  have hT2 := HhT1.out.below keeps_tri (hb4.mono (by omega))
  obtain ⟨x1, x2, x3⟩ := Hhbx.out w2 hb5
  have c0 : w2.cell? ⟨gb, 0, none⟩ = some (.int .i64 N) := x1.cell 0
  have c1 : w2.cell? ⟨gb, 1, none⟩ = some (.slice A T.length cap) := x1.cell 1
  have c3 := x3.cell
  have c4 := x3.frozen
  have hB2 : B ≤ w2.heap.size := by have := hb5.size; omega
  clear x1 x2 x3
  rcases hor with ⟨h40, hs, htab⟩ | ⟨hno, rfl⟩
  rotate_left 1
  · by_cases h40 : T.length ≤ 40
    · have hns : ¬ Surf N T := fun h => hno ⟨h40, h⟩
      have hsu := surface9_calls (.slice A T.length cap) N T w2 hB2 hT2 (by omega)
      have HhT2 := Lib.hid hT2; have Hhsu := Lib.hid hsu; have Hhns := Lib.hid hns; have Hhno := Lib.hid hno; clear hT2 hsu hns hno
      gi_wp2_with fail
      refine ⟨trivial, (callsIn_wide.2 Hhsu.out).mono ?_⟩
      rintro e w3 ⟨⟨b, rfl, hb⟩, hb6⟩
      obtain rfl : b = false := by
        cases b with
        | false => rfl
        | true => exact absurd (hb.1 rfl) Hhns.out
      have hb7 := hb5.trans (hb6.mono hb5.size)
      obtain ⟨x1, x2, x3⟩ := Hhbx.out w3 hb7
      have d3 := x3.cell
      have d4 := x3.frozen
      obtain ⟨y1, y2⟩ := Hhset.out w3 true hb7
      have Hhb := Lib.hid hb; have Hx1 := Lib.hid x1; have Hx2 := Lib.hid x2; have Hx3 := Lib.hid x3; have Hy1 := Lib.hid y1; have Hy2 := Lib.hid y2; clear hb x1 x2 x3 y1 y2
      gi_wp2_with fail
      exact ⟨_, results_bool rfl rfl rfl Try.underlying4 Hy2.out, rfl, Hy1.out⟩
    · have h3 : 40 < (T.length : Int) := by omega
      clear h40
      obtain ⟨y1, y2⟩ := Hhset.out w2 true hb5
      have HhT2 := Lib.hid hT2; have Hhno := Lib.hid hno; have Hy1 := Lib.hid y1; have Hy2 := Lib.hid y2; clear hT2 hno y1 y2
      gi_wp2_with fail
      refine ⟨trivial, ?_⟩
      gi_wp2_with fail
      exact ⟨_, results_bool rfl rfl rfl Try.underlying4 Hy2.out, rfl, Hy1.out⟩
  obtain ⟨g, rfl⟩ : ∃ g, tv = .pointer (some ⟨g, 0, none⟩) := by
    obtain ⟨g, _, _, _, _, _, rfl, _⟩ := htab
    exact ⟨_, rfl⟩
  have hTN : TabN w2 B' (.pointer (some ⟨g, 0, none⟩)) N T := .inl htab
  have hle := hTN.le
  have hrw := rwalk12_calls (N := N) hT2 hB2 hs v
  have hwk := fun wz (h9 : Below w2.heap.size w2 wz) => walk12_calls (hTN.below (h9.mono hle) (Nat.le_refl _)) hs v hv9
  have hst := fun wz (h9 : Below w2.heap.size w2 wz) Bt Bv h1 h2 h3 h4 => bwalk_stops 8 (by decide) Bt Bv B' (.pointer (some ⟨g, 0, none⟩)) N T v hv9 hs wz h1 h2 h3 h4 (hTN.below (h9.mono hle) (Nat.le_refl _))
  have hll : (loopAt T N v).length ≤ 120 := by have := hs.loop_len v; omega
  have h201 : (loopAt T N v).take 201 = loopAt T N v := List.take_of_length_le (by omega)
  rw [h201] at hwk
  clear h201
  generalize loopAt T N v = L at *
  have HhT2 := Lib.hid hT2; have Hhtab := Lib.hid htab; have HhTN := Lib.hid hTN; have Hhs := Lib.hid hs; have Hhrw := Lib.hid hrw; have Hhwk := Lib.hid hwk; have Hhst := Lib.hid hst; clear hT2 htab hTN hs hrw hwk hst
  gi_wp2_with fail
  refine ⟨trivial, (callsIn_wide.2 Hhrw.out).mono ?_⟩
  rintro e w3 ⟨⟨r3, rfl, hown3⟩, hb6⟩
  obtain ⟨A3, cap3, rfl, hc3⟩ := own_form hown3
  have hz3 := hb6.size
  have hx8 := Boxed.new w3 28 (.slice A3 L.length cap3)
  have hown4 := hown3.alloc (.cells #[.slice A3 L.length cap3] 28)
  have hd4 : Below w2.heap.size w2 (w3.alloc (.cells #[.slice A3 L.length cap3] 28)) := hb6.alloc hz3 _
  have hz4 : (w3.alloc (.cells #[.slice A3 L.length cap3] 28)).heap.size = w3.heap.size + 1 := by simp
  have Hhown3 := Lib.hid hown3; clear hown3; have Hhx8 := Lib.hid hx8; clear hx8; have Hhown4 := Lib.hid hown4; clear hown4
  gi_wp2_with fail
  obtain ⟨w4, hw4⟩ : ∃ w4, w4 = w3.alloc (.cells #[.slice A3 L.length cap3] 28) := ⟨_, rfl⟩
  rw [← hw4] at hd4 hz4 Hhx8 Hhown4 ⊢
  clear hw4
  have hwk4 := Hhwk.out w4.drew hd4.drew
  have Hhwk4 := Lib.hid hwk4; clear hwk4
  refine Go.Canon.Wide.region_tree Go.Canon.wide_wide [3] (fun b => b = w3.heap.size) (.seg [0,1,3] (.alt 2 (.alt 4 (.seg [5] .fin) .no) .no)) (by rfl) mixed (by kernel_rfl) ?_
  refine Go.Canon.tr_seg ?_
  simp only [List.map_cons, List.map_nil, List.getD_cons_zero, List.getD_cons_succ]
  have c8 : w4.cell? ⟨w3.heap.size, 0, none⟩ = some (.slice A3 L.length cap3) := Hhx8.out.cell
  go_wp2_with fail
  refine Go.Canon.tr_to (Go.Canon.tr_one ?_)
  simp only [List.getD_cons_zero, List.getD_cons_succ]
  go_wp2_with fail
  refine Hhwk4.out.mono ?_
  rintro e w5 ⟨⟨r5, rfl, hown5⟩, hb5'⟩
  have hd5 : Below w4.heap.size w4 w5 := (Below.refl _ w4).drew.trans hb5'
  have hz5 := hd5.size
  obtain ⟨A5, cap5, rfl, -⟩ := own_form hown5
  have hin := ints08_calls (sl_nvals hown5) (sl_nvals (own_below Hhown4.out hd5 (Nat.le_refl _))) (Nat.le_refl _) (by rw [List.length_map]; omega)
  rw [decide_eq_true rfl] at hin
  have Hhown5 := Lib.hid hown5; clear hown5; have Hhin := Lib.hid hin; clear hin
  go_wp2_with fail
  refine Go.Canon.tr_end (fun b hb => by subst hb; exact hd5.block _ (by omega)) (Go.Canon.tr_one ?_)
  simp only [List.getD_cons_zero, List.getD_cons_succ]
  go_wp2_with fail
  refine Hhin.out.mono ?_
  rintro e w6 ⟨rfl, hb7⟩
  have hd6 : Below w4.heap.size w4 w6 := hd5.trans (hb7.mono hz5)
  have hz6 := hd6.size
  go_wp2_with fail
  refine Go.Canon.tr_end (fun b hb => by subst hb; exact hd6.block _ (by omega)) (Go.Canon.tr_seg ?_)
  simp only [List.map_cons, List.map_nil, List.getD_cons_zero, List.getD_cons_succ]
  go_wp2_with fail
  refine Go.Canon.tr_to (Go.Canon.tr_fin (by rfl) (List.forall_mem_cons.2 ⟨.inl ⟨_, rfl, rfl, by rw [World.cell?_drew, c8]; rfl⟩, fun _ h => by cases h⟩) ?_)
  gi_wp2_with fail
  refine ⟨trivial, (callsIn_wide.2 (bwalk_calls _ _ _ rfl)).mono ?_⟩
  rintro e w7 ⟨rfl, rfl⟩
  gi_wp2_with fail
  obtain ⟨gk, hgk⟩ : ∃ gk, gk = w6.heap.size := ⟨_, rfl⟩
  rw [← hgk]
  obtain ⟨w7, hw7⟩ : ∃ w7, w7 = (((w6.alloc (.cells #[.int .i64 0] 3)).alloc (.cells #[.pointer (some ⟨g, 0, none⟩)] 26)).alloc (.cells #[.int .i64 v] 3)) := ⟨_, rfl⟩
  have hd67 : Below w6.heap.size w6 w7 := by rw [hw7]; exact (((Below.refl _ w6).alloc (Nat.le_refl _) _).alloc (by simp) _).alloc (by simp; omega) _
  have xk : Boxed w7 gk 3 (.int .i64 0) := by rw [hw7]; exact ((boxed_new' hgk _ _).alloc _).alloc _
  have xt : Boxed w7 (gk + 1) 26 (.pointer (some ⟨g, 0, none⟩)) := by rw [hw7]; exact (boxed_new' (by simp [hgk]) _ _).alloc _
  have xv : Boxed w7 (gk + 1 + 1) 3 (.int .i64 v) := by rw [hw7]; exact boxed_new' (by simp [hgk]) _ _
  have hz7 : w7.heap.size = gk + 3 := by rw [hw7]; simp [hgk]
  rw [← hw7]
  clear hw7
  have hd27 : Below w2.heap.size w2 w7 := hd4.trans ((hd6.trans (hd67.mono hz6)).mono hd4.size)
  have hlt : w0.heap.size ≤ w2.heap.size ∧ w2.heap.size ≤ w3.heap.size ∧ w3.heap.size < w4.heap.size ∧ w4.heap.size ≤ gk := ⟨hb5.size, hz3, by omega, by omega⟩
  have hz7a : gk + 1 < w7.heap.size ∧ gk + 1 + 1 < w7.heap.size ∧ gk ≤ w7.heap.size := by omega
  have hown7 := own_below Hhown4.out (hd6.trans (hd67.mono hz6)) (Nat.le_refl _)
  have hx87 : Boxed w7 w3.heap.size 28 (.slice A3 L.length cap3) := ((hd6.trans (hd67.mono hz6)).block _ (by omega)).trans Hhx8.out
  have hx27 : Boxed w7 (gb + 1) 5 (.int .u8 (f : Int)) := (Hhbx.out w7 (hb5.trans (hd27.mono hb5.size))).2.1
  have hd47 : Below w4.heap.size w4 w7 := hd6.trans (hd67.mono hz6)
  clear hd67
  have hstop := Hhst.out w7 hd27 (gk + 1) (gk + 1 + 1) hz7a.1 hz7a.2.1 xt.cell xv.cell
  have hkb : ∀ W : World, Below gk w7 W → Boxed W w3.heap.size 28 (.slice A3 L.length cap3) ∧ Boxed W (gb + 1) 5 (.int .u8 (f : Int)) ∧ W.ownsRow w2.heap.size 3 1 (.slice A3 L.length cap3) L.length (nvals L) := fun W h => by
    refine ⟨(h.block _ (by omega)).trans hx87, (h.block _ (by omega)).trans hx27, ?_⟩
    exact own_below Hhown4.out (hd47.trans (h.mono (by omega))) (Nat.le_refl _)
  have Hhgk := Lib.hid hgk; clear hgk; have Hhz7 := Lib.hid hz7; clear hz7; have Hxk := Lib.hid xk; clear xk; have Hxt := Lib.hid xt; clear xt; have Hhown7 := Lib.hid hown7; clear hown7; have Hhx87 := Lib.hid hx87; clear hx87; have Hhx27 := Lib.hid hx27; clear hx27; have Hhkb := Lib.hid hkb; clear hkb
  refine wpIn_rangeFunc_ownF rfl (by decide) (gf := 73) (lb := #[.pointer (some ⟨gk + 1, 0, none⟩), .pointer (some ⟨gk + 1 + 1, 0, none⟩)]) rfl trivial (enters_of Try.func73 (by kernel_rfl) rfl)
    hstop keepM_t (keepM_b hz7a.2.1) (Below.refl _ _) (fun _ => rfl)
    (fun pre W => pre <+: L ∧ Boxed W gk 3 (.int .i64 (pre.length : Int)) ∧ Boxed W (gk + 1 + 1) 3 (.int .i64 v) ∧ Below gk w7 W)
    (fun c pre W => pre <+: L → c = .exit 0 ∧ Below gk w7 W)
    ?hI ?hIx ?h0
    (fun x => { tmps := #[.agg #[.int .i64 N, .slice A T.length cap], .int .i64 v, .int .u8 (f : Int), .pointer (some ⟨gb, 0, none⟩), undef, .pointer (some ⟨gb + 1, 0, none⟩), .pointer (some ⟨gb + 1 + 1, 0, none⟩), .pointer (some ⟨g, 0, none⟩), .pointer (some ⟨w3.heap.size, 0, none⟩), .pointer (some ⟨gk, 0, none⟩), .int .i64 (x : Int), .bool true, .bool false, .agg #[.int .i64 N, .slice A T.length cap], .pointer (some ⟨g, 0, none⟩), .pointer (some ⟨g, 0, none⟩), .bool false, undef, undef, undef, undef, undef, undef, undef, undef, undef, .agg #[.int .i64 N, .slice A T.length cap], .int .i64 v, .slice A3 L.length cap3, .pointer (some ⟨g, 0, none⟩), .int .i64 v, .slice A5 L.length cap5, .slice A3 L.length cap3, .bool true, .bool false, .pointer (some ⟨g, 0, none⟩), .int .i64 v, .func (.func 73) #[] #[.pointer (some ⟨gk + 1, 0, none⟩), .pointer (some ⟨gk + 1 + 1, 0, none⟩)], .int .i64 (x : Int), undef, undef, undef, undef, undef, undef, undef, undef, undef, undef, undef, undef, undef, undef, undef, undef, undef, undef, undef, undef, undef, undef, undef, undef], defers := [] }) ?assign ?body ?done ?stop
  case hI =>
    exact OwnFrom.and (ownFrom_pure _ fun pre : List Nat => pre <+: L) (OwnFrom.and (Own.from (boxed_own gk _ fun pre : List Nat => Value.int .i64 (pre.length : Int)) _) (OwnFrom.and (Own.from (boxed_own (gk + 1 + 1) _ fun _ : List Nat => Value.int .i64 v) _) (ownFrom_below hz7a.2.2 hz7a.2.2)))
  case hIx =>
    intro c s A' C' row hs9 hg hr h9
    exact ⟨(hs9 h9).1, ownFrom_below (β := Unit) hz7a.2.2 hz7a.2.2 () A' C' row (hs9 h9).2 hg hr⟩
  case h0 => exact ⟨List.nil_prefix, Hxk.out, xv, Below.refl _ _⟩
  case assign =>
    intro l x W K hK
    gi_wp2
    exact hK
  case body =>
    rintro l pre x W ⟨hpre, hk9, hv9b, hbl⟩ hN9
    have hd0W : Below w0.heap.size w0 W := (hb5.trans (hd27.mono hb5.size)).trans (hbl.mono (by omega))
    obtain ⟨y8, y2, yown⟩ := Hhkb.out W hbl
    obtain ⟨z1, z2, z3⟩ := Hhbx.out W hd0W
    have c8 := y8.cell
    have c2 := y2.cell
    have ck := hk9.cell
    have fk := hk9.frozen
    have c6 := z3.cell
    have f6 := z3.frozen
    by_cases hkl : pre.length < L.length
    · obtain ⟨g3, rfl⟩ := own_addr yown (by omega)
      obtain ⟨cx, -, -⟩ := own_nat_at yown rfl hkl
      have hki : (pre.length : Int) < (L.length : Int) := by omega
      have hno9 : x ≠ L[pre.length] → ¬ (pre ++ [x] <+: L) := fun h9 h8 => h9 (by
        have := h8.getElem (i := pre.length) (by simp)
        simpa using this)
      have hyes : x = L[pre.length] → pre ++ [x] <+: L := fun h9 => by
        have e := List.prefix_iff_eq_take.1 hpre
        have : pre ++ [x] = L.take (pre.length + 1) := by
          rw [List.take_succ_eq_append_getElem hkl, ← h9, ← e]
        rw [this]
        exact List.take_prefix _ _
      generalize L[pre.length] = y at *
      by_cases hx : x = y
      · subst hx
        have hp2 := hyes rfl
        have hk2 : Boxed (W.setCell ⟨gk, 0, none⟩ (.int .i64 ((pre.length : Int) + 1))) gk 3 (.int .i64 ((pre ++ [x]).length : Int)) := by
          have := hk9.set (.int .i64 ((pre.length : Int) + 1))
          simpa using this
        have hv2 := hv9b.other (B' := gk) (by omega) (.int .i64 ((pre.length : Int) + 1))
        have hbl2 := hbl.setCell (p := ⟨gk, 0, none⟩) (Nat.le_refl _) (.int .i64 ((pre.length : Int) + 1))
        have Hhpre := Lib.hid hpre; have Hhk9 := Lib.hid hk9; have Hhv9b := Lib.hid hv9b; have Hy8 := Lib.hid y8; have Hy2 := Lib.hid y2; have Hyown := Lib.hid yown; have Hz1 := Lib.hid z1; have Hz2 := Lib.hid z2; have Hz3 := Lib.hid z3; have Hhno9 := Lib.hid hno9; have Hhyes := Lib.hid hyes; have Hhp2 := Lib.hid hp2; have Hhk2 := Lib.hid hk2; have Hhv2 := Lib.hid hv2; have Hhbl2 := Lib.hid hbl2; clear hpre hk9 hv9b y8 y2 yown z1 z2 z3 hno9 hyes hp2 hk2 hv2 hbl2
        gi_wp2_with fail
        · exact ⟨KeepsOthers.setCell _ _ _, fun _ => ⟨rfl, Hhbl2.out⟩⟩
        · exact ⟨KeepsOthers.setCell _ _ _, keepM_of (KeepsOthers.setCell _ _ _) (Hhv2.out.cell.trans Hhv9b.out.cell.symm), Hhp2.out, Hhk2.out, Hhv2.out, Hhbl2.out⟩
      · have hn2 := hno9 hx
        have hxb : ((x : Int) != (y : Int)) = true := by rw [bne_iff_ne]; omega
        have Hhpre := Lib.hid hpre; have Hhk9 := Lib.hid hk9; have Hhv9b := Lib.hid hv9b; have Hy8 := Lib.hid y8; have Hy2 := Lib.hid y2; have Hyown := Lib.hid yown; have Hz1 := Lib.hid z1; have Hz2 := Lib.hid z2; have Hz3 := Lib.hid z3; have Hhno9 := Lib.hid hno9; have Hhyes := Lib.hid hyes; have Hhn2 := Lib.hid hn2; clear hpre hk9 hv9b y8 y2 yown z1 z2 z3 hno9 hyes hn2
        gi_wp2_with fail
        exact ⟨KeepsOthers.setCell _ _ _, fun h9 => absurd h9 Hhn2.out⟩
    · have hki : (L.length : Int) ≤ (pre.length : Int) := by omega
      have hn2 : ¬ (pre ++ [x] <+: L) := fun h9 => by
        have := h9.length_le
        simp at this
        omega
      have Hhpre := Lib.hid hpre; have Hhk9 := Lib.hid hk9; have Hhv9b := Lib.hid hv9b; have Hy8 := Lib.hid y8; have Hy2 := Lib.hid y2; have Hyown := Lib.hid yown; have Hz1 := Lib.hid z1; have Hz2 := Lib.hid z2; have Hz3 := Lib.hid z3; have Hhn2 := Lib.hid hn2; clear hpre hk9 hv9b y8 y2 yown z1 z2 z3 hn2
      gi_wp2_with fail
      exact ⟨KeepsOthers.setCell _ _ _, fun h9 => absurd h9 Hhn2.out⟩
  case done =>
    rintro D ys W hD hys ⟨hpre, hk9, hv9b, hbl⟩ hK
    gi_wp2_with fail
    have hd2W : Below w2.heap.size w2 W := hd27.trans (hbl.mono (by omega))
    have hd0W := hb5.trans (hd2W.mono hb5.size)
    obtain ⟨y8, y2, yown⟩ := Hhkb.out W hbl
    have c8 : W.cell? ⟨w3.heap.size, 0, none⟩ = some (.slice A3 L.length cap3) := y8.cell
    obtain ⟨z1, z2, z3⟩ := Hhbx.out W hd0W
    have c6 := z3.cell
    have f6 := z3.frozen
    have hwkW := Hhwk.out W.drew hd2W.drew
    have hgW : w3.heap.size < W.heap.size := y8.lt
    have hgbW : gb + 1 + 1 < W.heap.size := z3.lt
    have hDW : D < W.heap.size := (Array.getElem?_eq_some_iff.1 hK).1
    have Hy8 := Lib.hid y8; have Hy2 := Lib.hid y2; have Hyown := Lib.hid yown; have Hz1 := Lib.hid z1; have Hz2 := Lib.hid z2; have Hz3 := Lib.hid z3; have HhwkW := Lib.hid hwkW; clear y8 y2 yown z1 z2 z3 hwkW
    refine Go.Canon.Wide.region_tree Go.Canon.wide_wide [3] (fun b => b = w3.heap.size) (.seg [0,1,3] (.alt 2 (.alt 4 (.alt 5 .fin .no) .no) .no)) (by rfl) mixed (by kernel_rfl) ?_
    refine Go.Canon.tr_seg ?_
    simp only [List.map_cons, List.map_nil, List.getD_cons_zero, List.getD_cons_succ]
    go_wp2_with fail
    refine Go.Canon.tr_to (Go.Canon.tr_one ?_)
    simp only [List.getD_cons_zero, List.getD_cons_succ]
    go_wp2_with fail
    refine HhwkW.out.mono ?_
    rintro e w8 ⟨⟨r8, rfl, hown8⟩, hb8⟩
    have hd8 : Below W.heap.size W w8 := (Below.refl _ W).drew.trans hb8
    have hz8 := hd8.size
    obtain ⟨A8, cap8, rfl, -⟩ := own_form hown8
    have hin := ints08_calls (sl_nvals hown8) (sl_nvals (own_below Hyown.out hd8 (Nat.le_refl _))) (Nat.le_refl _) (by rw [List.length_map]; omega)
    rw [decide_eq_true rfl] at hin
    have Hhown8 := Lib.hid hown8; clear hown8; have Hhin := Lib.hid hin; clear hin
    go_wp2_with fail
    refine Go.Canon.tr_end (fun b hb => by subst hb; exact hd8.block _ (by omega)) (Go.Canon.tr_one ?_)
    simp only [List.getD_cons_zero, List.getD_cons_succ]
    go_wp2_with fail
    refine Hhin.out.mono ?_
    rintro e w9 ⟨rfl, hb9⟩
    have hd9 : Below W.heap.size W w9 := hd8.trans (hb9.mono hz8)
    have q6 : Boxed w9 (gb + 1 + 1) 4 (.bool false) := (hd9.block _ hgbW).trans Hz3.out
    have c69 := q6.cell
    have f69 := q6.frozen
    have hd09 := hd0W.trans (hd9.mono hd0W.size)
    obtain ⟨s1, s2⟩ := Hhset.out w9 true hd09
    have hK9 : (w9.setCell ⟨gb + 1 + 1, 0, none⟩ (.bool true)).heap[D]? = some (.deferred (some [])) := (Below.heap_setCell _ _ _ _ (by show D ≠ gb + 1 + 1; omega)).trans ((hd9.block _ hDW).trans hK)
    have hk8 : (w9.setCell ⟨gb + 1 + 1, 0, none⟩ (.bool true)).heap[w3.heap.size]? = W.heap[w3.heap.size]? := (Below.heap_setCell _ _ _ _ (by show w3.heap.size ≠ gb + 1 + 1; omega)).trans (hd9.block _ hgW)
    have Hq6 := Lib.hid q6; have Hs1 := Lib.hid s1; have Hs2 := Lib.hid s2; have HhK9 := Lib.hid hK9; have Hhk8 := Lib.hid hk8; clear q6 s1 s2 hK9 hk8
    go_wp2_with fail
    refine Go.Canon.tr_end (fun b hb => by subst hb; exact hd9.block _ hgW) (Go.Canon.tr_one ?_)
    simp only [List.getD_cons_zero, List.getD_cons_succ]
    go_wp2_with fail
    refine Go.Canon.tr_end (fun b hb => by subst hb; exact Hhk8.out) (Go.Canon.tr_fin (by rfl) (List.forall_mem_cons.2 ⟨.inl ⟨_, rfl, rfl, by rw [World.cell?_drew, c8]; rfl⟩, fun _ h => by cases h⟩) ?_)
    gi_wp2_with fail
    refine ⟨by simp, .inl ⟨_, _, rfl, run_takeDeferred HhK9.out, ?_⟩⟩
    refine ⟨_, results_bool rfl rfl rfl Try.underlying4 ?_, rfl, ?_⟩
    · have e9 : ((w9.setCell ⟨gb + 1 + 1, 0, none⟩ (.bool true)).putObj D (.deferred none)).cell? ⟨gb + 1 + 1, 0, none⟩ = (w9.setCell ⟨gb + 1 + 1, 0, none⟩ (.bool true)).cell? ⟨gb + 1 + 1, 0, none⟩ := by unfold World.cell?; rw [World.putObj_heap_other (by show gb + 1 + 1 ≠ D; omega)]
      exact e9.trans Hs2.out
    · exact Hs1.out.trans (belowK_b (w := w) (Nat.le_refl _) _ D _ _ (by omega) HhK9.out rfl rfl)
  case stop =>
    rintro D c pre W hD hpre hix hK
    obtain ⟨rfl, hbl⟩ := hix hpre
    gi_wp2_with fail
    have hd2W : Below w2.heap.size w2 W := hd27.trans (hbl.mono (by omega))
    have hd0W := hb5.trans (hd2W.mono hb5.size)
    obtain ⟨y8, y2, yown⟩ := Hhkb.out W hbl
    have c8 : W.cell? ⟨w3.heap.size, 0, none⟩ = some (.slice A3 L.length cap3) := y8.cell
    obtain ⟨z1, z2, z3⟩ := Hhbx.out W hd0W
    have c6 := z3.cell
    have f6 := z3.frozen
    have hwkW := Hhwk.out W.drew hd2W.drew
    have hgW : w3.heap.size < W.heap.size := y8.lt
    have hgbW : gb + 1 + 1 < W.heap.size := z3.lt
    have hDW : D < W.heap.size := (Array.getElem?_eq_some_iff.1 hK).1
    have Hy8 := Lib.hid y8; have Hy2 := Lib.hid y2; have Hyown := Lib.hid yown; have Hz1 := Lib.hid z1; have Hz2 := Lib.hid z2; have Hz3 := Lib.hid z3; have HhwkW := Lib.hid hwkW; clear y8 y2 yown z1 z2 z3 hwkW
    refine Go.Canon.Wide.region_tree Go.Canon.wide_wide [3] (fun b => b = w3.heap.size) (.seg [0,1,3] (.alt 2 (.alt 4 (.alt 5 .fin .no) .no) .no)) (by rfl) mixed (by kernel_rfl) ?_
    refine Go.Canon.tr_seg ?_
    simp only [List.map_cons, List.map_nil, List.getD_cons_zero, List.getD_cons_succ]
    go_wp2_with fail
    refine Go.Canon.tr_to (Go.Canon.tr_one ?_)
    simp only [List.getD_cons_zero, List.getD_cons_succ]
    go_wp2_with fail
    refine HhwkW.out.mono ?_
    rintro e w8 ⟨⟨r8, rfl, hown8⟩, hb8⟩
    have hd8 : Below W.heap.size W w8 := (Below.refl _ W).drew.trans hb8
    have hz8 := hd8.size
    obtain ⟨A8, cap8, rfl, -⟩ := own_form hown8
    have hin := ints08_calls (sl_nvals hown8) (sl_nvals (own_below Hyown.out hd8 (Nat.le_refl _))) (Nat.le_refl _) (by rw [List.length_map]; omega)
    rw [decide_eq_true rfl] at hin
    have Hhown8 := Lib.hid hown8; clear hown8; have Hhin := Lib.hid hin; clear hin
    go_wp2_with fail
    refine Go.Canon.tr_end (fun b hb => by subst hb; exact hd8.block _ (by omega)) (Go.Canon.tr_one ?_)
    simp only [List.getD_cons_zero, List.getD_cons_succ]
    go_wp2_with fail
    refine Hhin.out.mono ?_
    rintro e w9 ⟨rfl, hb9⟩
    have hd9 : Below W.heap.size W w9 := hd8.trans (hb9.mono hz8)
    have q6 : Boxed w9 (gb + 1 + 1) 4 (.bool false) := (hd9.block _ hgbW).trans Hz3.out
    have c69 := q6.cell
    have f69 := q6.frozen
    have hd09 := hd0W.trans (hd9.mono hd0W.size)
    obtain ⟨s1, s2⟩ := Hhset.out w9 true hd09
    have hK9 : (w9.setCell ⟨gb + 1 + 1, 0, none⟩ (.bool true)).heap[D]? = some (.deferred (some [])) := (Below.heap_setCell _ _ _ _ (by show D ≠ gb + 1 + 1; omega)).trans ((hd9.block _ hDW).trans hK)
    have hk8 : (w9.setCell ⟨gb + 1 + 1, 0, none⟩ (.bool true)).heap[w3.heap.size]? = W.heap[w3.heap.size]? := (Below.heap_setCell _ _ _ _ (by show w3.heap.size ≠ gb + 1 + 1; omega)).trans (hd9.block _ hgW)
    have Hq6 := Lib.hid q6; have Hs1 := Lib.hid s1; have Hs2 := Lib.hid s2; have HhK9 := Lib.hid hK9; have Hhk8 := Lib.hid hk8; clear q6 s1 s2 hK9 hk8
    go_wp2_with fail
    refine Go.Canon.tr_end (fun b hb => by subst hb; exact hd9.block _ hgW) (Go.Canon.tr_one ?_)
    simp only [List.getD_cons_zero, List.getD_cons_succ]
    go_wp2_with fail
    refine Go.Canon.tr_end (fun b hb => by subst hb; exact Hhk8.out) (Go.Canon.tr_fin (by rfl) (List.forall_mem_cons.2 ⟨.inl ⟨_, rfl, rfl, by rw [World.cell?_drew, c8]; rfl⟩, fun _ h => by cases h⟩) ?_)
    gi_wp2_with fail
    refine ⟨by simp, .inl ⟨_, _, rfl, run_takeDeferred HhK9.out, ?_⟩⟩
    refine ⟨_, results_bool rfl rfl rfl Try.underlying4 ?_, rfl, ?_⟩
    · have e9 : ((w9.setCell ⟨gb + 1 + 1, 0, none⟩ (.bool true)).putObj D (.deferred none)).cell? ⟨gb + 1 + 1, 0, none⟩ = (w9.setCell ⟨gb + 1 + 1, 0, none⟩ (.bool true)).cell? ⟨gb + 1 + 1, 0, none⟩ := by unfold World.cell?; rw [World.putObj_heap_other (by show gb + 1 + 1 ≠ D; omega)]
      exact e9.trans Hs2.out
    · exact Hs1.out.trans (belowK_b (w := w) (Nat.le_refl _) _ D _ _ (by omega) HhK9.out rfl rfl)
end Go.Proofs.Ytckkpmjkajkkmaa
