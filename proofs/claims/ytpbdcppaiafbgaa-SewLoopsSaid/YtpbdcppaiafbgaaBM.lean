/- Walks: ref09's Edge, Has, twice. Walks: ref09's index, pairs. Plain: the triangles at a vertex are connected; marks that spread; no program in sight. Walks: ref09's Pinched. Plain: what ref09 looks at, one after another, is what a surface is; no program in sight. Walks: ref09's All, Surface. The border of a surface: plain. Walks: border.Edges, border.After. Walks: border.behind, the law's Table. Words for maps inside a fence: look and put at the operation. Walks: border.Walk and its iterator. Walks: border.Walk, the law's walk. Walks: slices.AppendSeq, slices.Collect over a border walk. A function that ranges over a function in a loop: its marks are taken one after another as it leaves. Walks: border.Loops. Walks: ref12's Lists. Walks: the law's awake. -/
import Derived.Test.YtpbdcppaiafbgaaTS
import Derived.Test.YtpbdcppaiafbgaaSurf
import Derived.Test.YtpbdcppaiafbgaaVB
import Derived.Test.YtpbdcppaiafbgaaMP
import Derived.Test.YtpbdcppaiafbgaaMap
import Derived.Maps.OwnIn
import Derived.Test.YtpbdcppaiafbgaaTI
namespace Go.Mesh
/-- Has a triangle a directed edge? -/
def edB (t : T3) (a b : Int) : Bool := (t.1 == a && t.2.1 == b) || (t.2.1 == a && t.2.2 == b) || (t.2.2 == a && t.1 == b)
/-- Has a triangle a vertex? -/
def haB (t : T3) (v : Int) : Bool := t.1 == v || t.2.1 == v || t.2.2 == v
def twB (t u : T3) : Bool := edB u t.1 t.2.1 || edB u t.2.1 t.2.2 || edB u t.2.2 t.1
end Go.Mesh
namespace Go.Proofs.Ytpbdcppaiafbgaa
open Go Go.RowKit Go.Words Go.Mesh

theorem ret_bool {a b : Bool} (h : a = b) : Ending.returned (.bool a) = Ending.returned (.bool b) := by rw [h]
abbrev triV (t : T3) : Value := .agg #[.int .i64 t.1, .int .i64 t.2.1, .int .i64 t.2.2]

set_option maxRecDepth 20000 in
set_option maxHeartbeats 1000000 in
theorem edge9_calls (t : T3) (a b : Int) (w : World) :
    Calls Try.prog 66 #[triV t, .int .i64 a, .int .i64 b] w fun e w' => e = .returned (.bool (edB t a b)) ∧ Below w.heap.size w w' := by
  obtain ⟨x, y, z⟩ := t
  unfold edB
  simp only [triV]
  go_enter Try.func66, Try.ntmps66
  go_wp2_with fail
  all_goals
    go_ret
    refine ⟨ret_bool ?_, (Below.refl w.heap.size w).alloc (Nat.le_refl _) _⟩
    simp [*] <;> omega

set_option maxRecDepth 20000 in
set_option maxHeartbeats 1000000 in
theorem has9_calls (t : T3) (v : Int) (w : World) :
    Calls Try.prog 43 #[triV t, .int .i64 v] w fun e w' => e = .returned (.bool (haB t v)) ∧ Below w.heap.size w w' := by
  obtain ⟨x, y, z⟩ := t
  unfold haB
  simp only [triV]
  go_enter Try.func43, Try.ntmps43
  go_wp2_with fail
  all_goals
    go_ret
    refine ⟨ret_bool ?_, (Below.refl w.heap.size w).alloc (Nat.le_refl _) _⟩
    simp [*]

set_option maxRecDepth 20000 in
set_option maxHeartbeats 1000000 in
theorem twice9_calls (t u : T3) (w : World) :
    Calls Try.prog 52 #[triV t, triV u] w fun e w' => e = .returned (.bool (twB t u)) ∧ Below w.heap.size w w' := by
  have hed := fun a b wz => edge9_calls u a b wz
  have h1 := hed t.1 t.2.1
  have h2 := hed t.2.1 t.2.2
  have h3 := hed t.2.2 t.1
  clear hed
  unfold twB
  obtain ⟨x, y, z⟩ := t
  simp only [triV] at h1 h2 h3 ⊢
  generalize edB u x y = b1 at *
  generalize edB u y z = b2 at *
  generalize edB u z x = b3 at *
  obtain ⟨p, q, r⟩ := u
  simp only [] at h1 h2 h3 ⊢
  have hb1 := ((Below.refl w.heap.size w).alloc (Nat.le_refl _) (.cells #[.int .i64 x, .int .i64 y, .int .i64 z] 43)).alloc (by simp) (.cells #[.int .i64 p, .int .i64 q, .int .i64 r] 43)
  have hk1 := Bk.new w 43 [.int .i64 x, .int .i64 y, .int .i64 z]
  have hk2 := Bk.new' (n := w.heap.size + 1) (w := w.alloc (.cells #[.int .i64 x, .int .i64 y, .int .i64 z] 43)) 43 [.int .i64 p, .int .i64 q, .int .i64 r] (by simp)
  have hk1 := hk1.alloc (.cells #[.int .i64 p, .int .i64 q, .int .i64 r] 43)
  have hst : ∀ wz, Below (w.heap.size + 2) ((w.alloc (.cells #[.int .i64 x, .int .i64 y, .int .i64 z] 43)).alloc (.cells #[.int .i64 p, .int .i64 q, .int .i64 r] 43)) wz →
      wz.cell? ⟨w.heap.size, 0, none⟩ = some (.int .i64 x) ∧ wz.cell? ⟨w.heap.size, 1, none⟩ = some (.int .i64 y) ∧ wz.cell? ⟨w.heap.size, 2, none⟩ = some (.int .i64 z) ∧ wz.cell? ⟨w.heap.size + 1, 0, none⟩ = some (.int .i64 p) ∧ wz.cell? ⟨w.heap.size + 1, 1, none⟩ = some (.int .i64 q) ∧ wz.cell? ⟨w.heap.size + 1, 2, none⟩ = some (.int .i64 r) := fun wz hz => by
    have g1 := hk1.below hz (by omega)
    have g2 := hk2.below hz (by omega)
    exact ⟨g1.cell 0, g1.cell 1, g1.cell 2, g2.cell 0, g2.cell 1, g2.cell 2⟩
  have Hh1 := Lib.hid h1; clear h1; have Hh2 := Lib.hid h2; clear h2; have Hh3 := Lib.hid h3; clear h3; have Hhk1 := Lib.hid hk1; clear hk1; have Hhk2 := Lib.hid hk2; clear hk2; have Hhst := Lib.hid hst; clear hst
  go_enter Try.func52, Try.ntmps52
  go_wp2_with fail
  refine (Hh1.out _).mono ?_
  rintro e w1 ⟨rfl, hb2⟩
  rw [World.size_alloc, World.size_alloc] at hb2
  obtain ⟨c0, c1, c2, c3, c4, c5⟩ := Hhst.out w1 hb2
  have hz2 := hb2.size
  simp only [World.size_alloc] at hz2
  have hbx := hb1.trans (hb2.mono (by omega))
  cases b1 with
  | true =>
    go_wp2_with fail
    go_ret
    exact ⟨ret_bool (by simp), hbx⟩
  | false =>
    go_wp2_with fail
    refine (Hh2.out _).mono ?_
    rintro e w2 ⟨rfl, hb3⟩
    have hb3' := hb2.trans (hb3.mono hz2)
    obtain ⟨d0, d1, d2, d3, d4, d5⟩ := Hhst.out w2 hb3'
    have hz3 := hb3.size
    have hby := hbx.trans (hb3.mono hbx.size)
    clear c0 c1 c2 c3 c4 c5
    cases b2 with
    | true =>
      go_wp2_with fail
      go_ret
      exact ⟨ret_bool (by simp), hby⟩
    | false =>
      go_wp2_with fail
      refine (Hh3.out _).mono ?_
      rintro e w3 ⟨rfl, hb4⟩
      go_wp2_with fail
      go_ret
      exact ⟨ret_bool (by simp), hby.trans (hb4.mono hby.size)⟩
end Go.Proofs.Ytpbdcppaiafbgaa

namespace Go.Mesh
/-- The vertices are numbers below N, and N is not too great. -/
def Idx (N : Int) (T : List T3) : Prop := 0 ≤ N ∧ N ≤ 4096 ∧ ∀ c, c < 3 * T.length → 0 ≤ vt T c ∧ vt T c < N
/-- No two triangles are so. -/
def NoPair (p : T3 → T3 → Bool) (T : List T3) (n : Nat) : Prop := ∀ b a, b < n → a < b → p (triAt T a) (triAt T b) = false
def vsB (t u : T3) : Bool := haB u t.1 && haB u t.2.1 && haB u t.2.2
theorem triAt_get {T : List T3} {i : Nat} (h : i < T.length) : T[i] = triAt T i := by
  unfold triAt
  rw [List.getD_eq_getElem?_getD, List.getElem?_eq_getElem h]
  rfl
end Go.Mesh
namespace Go.Proofs.Ytpbdcppaiafbgaa
open Go Go.RowKit Go.Words Go.Mesh

theorem info_wit9 : (Try.prog.info? 90).map (fun i => (i.zero, i.size, i.bytes)) = some (some (.agg #[.int .i64 0, .int .i64 0, .int .i64 0]), 3, 24) := by kernel_rfl
/-- A list of witnesses that is empty just if all is good. -/
def Wz (w : World) (base : Nat) (v : Value) (good : Prop) : Prop := ∃ (n : Nat) (xs : List Value), w.ownsRow base 90 3 v n xs ∧ (n = 0 ↔ good) ∧ n ≤ 100000

set_option maxRecDepth 20000 in
set_option maxHeartbeats 2000000 in
theorem index9_calls (sv : Value) (N : Int) (T : List T3) (w : World) {B : Nat} (hB0 : B ≤ w.heap.size) (hT : Sl 3 RTri w B sv T) (hfew : T.length ≤ 8192) :
    Calls Try.prog 41 #[.agg #[.int .i64 N, sv]] w fun e w' => (∃ v', e = .returned v' ∧ Wz w' w.heap.size v' (Idx N T)) ∧ Below w.heap.size w w' := by
  obtain ⟨A, cap, rfl, hcap⟩ := hT.form
  have hbox := Bk.new w 24 [.int .i64 N, .slice A T.length cap]
  have hb1 := (Below.refl w.heap.size w).alloc (Nat.le_refl _) (.cells #[.int .i64 N, .slice A T.length cap] 24)
  have hTA := hT.below keeps_tri (hb1.mono hB0)
  have hle : B ≤ (w.alloc (.cells #[.int .i64 N, .slice A T.length cap] 24)).heap.size := by rw [World.size_alloc]; omega
  have c0 := hbox.cell 0
  have c1 := hbox.cell 1
  simp only [List.getElem?_cons_zero, List.getElem?_cons_succ] at c0 c1
  by_cases hp : 0 ≤ N ∧ N ≤ 4096
  case neg =>
    have hbad : ¬ Idx N T := fun h9 => hp ⟨h9.1, h9.2.1⟩
    have Hhbad := Lib.hid hbad; clear hbad; have HhT := Lib.hid hT; clear hT; have HhTA := Lib.hid hTA; clear hTA
    go_enter Try.func41, Try.ntmps41
    go_wp2_with fail
    all_goals first | (exfalso; omega) | skip
    all_goals
      go_ret
      refine ⟨⟨_, rfl, 1, [.int .i64 1, .int .i64 (-1), .int .i64 0], ?_, ⟨fun h9 => (by cases h9), fun h9 => absurd h9 Hhbad.out⟩, by omega⟩, hb1.alloc (by rw [World.size_alloc]; omega) _⟩
      have h9 := World.ownsRow_lit (e := 90) (base := w.heap.size) (size := 3) (w.alloc (.cells #[.int .i64 N, .slice A T.length cap] 24)) #[.int .i64 1, .int .i64 (-1), .int .i64 0] 1 (by rw [World.size_alloc]; omega) (by unfold maxLen; omega) rfl
      rw [World.size_alloc] at h9
      exact h9
  case pos =>
    obtain ⟨p1, p2⟩ := hp
    have hz0 : w.heap.size < (w.alloc (.cells #[.int .i64 N, .slice A T.length cap] 24)).heap.size := by rw [World.size_alloc]; omega
    generalize hw0 : w.alloc (.cells #[.int .i64 N, .slice A T.length cap] 24) = w0 at *
    have HhT := Lib.hid hT; clear hT; have HhTA := Lib.hid hTA; clear hTA; have Hhbox := Lib.hid hbox; clear hbox
    go_enter Try.func41, Try.ntmps41
    go_wp2_with fail
    clear hw0
    go_loopw [3, 4] (fun l i wr => ∃ (k n : Nat) (xs : List Value), k ≤ T.length ∧ i = .int .i64 k ∧ wr.ownsRow w0.heap.size 90 3 l n xs ∧ (n = 0 ↔ ∀ c, c < 3 * k → 0 ≤ Mesh.vt T c ∧ Mesh.vt T c < N) ∧ n ≤ k ∧ Below w0.heap.size w0 wr) (fun _ i _ => T.length - (intOf i).toNat)
    case atStart => exact ⟨0, 0, [], by omega, rfl, World.ownsRow_nil _ _ _ _, ⟨fun _ c hc => by omega, fun _ => rfl⟩, by omega, Below.refl _ _⟩
    case round =>
      obtain ⟨k, n, xs, hk, rfl, hown, hgood, hnk, hbel⟩ := hrel
      obtain ⟨w1, hw1⟩ : ∃ w1, w1 = wr := ⟨_, rfl⟩
      subst hw1
      have c0r : w1.cell? ⟨w.heap.size, 0, none⟩ = some (.int .i64 N) := (hbel.cell (p := ⟨w.heap.size, 0, none⟩) hz0).trans c0
      have c1r : w1.cell? ⟨w.heap.size, 1, none⟩ = some (.slice A T.length cap) := (hbel.cell (p := ⟨w.heap.size, 1, none⟩) hz0).trans c1
      have hsz := hbel.size
      have hTr := HhTA.out.below keeps_tri (hbel.mono hle)
      have hgs : w.heap.size < w1.heap.size := by omega
      by_cases hlt : k < T.length
      · obtain ⟨b, o, rfl, hb, hcell⟩ := tri_cells hTr hlt
        have hbw : b < w1.heap.size := by omega
        have Hhown := Lib.hid hown; clear hown; have Hhgood := Lib.hid hgood; clear hgood; have HhTr := Lib.hid hTr; clear hTr; have Hhcell := Lib.hid hcell; clear hcell
        go_wp2_with fail
        go_loopw [5, 6] (fun bv jv wi => ∃ (m : Nat) (bd : Bool), m ≤ 3 ∧ jv = .int .i64 m ∧ bv = .bool bd ∧ (bd = false ↔ ∀ c, 3 * k ≤ c → c < 3 * k + m → 0 ≤ Mesh.vt T c ∧ Mesh.vt T c < N) ∧ Below w1.heap.size w1 wi) (fun _ j _ => 3 - (intOf j).toNat)
        case atStart => exact ⟨0, false, by omega, rfl, rfl, ⟨fun _ c _ hc => by omega, fun _ => rfl⟩, Below.refl _ _⟩
        case round =>
          obtain ⟨m, bd, hm, rfl, rfl, hbd, hbel2⟩ := hrel
          have c0w : wr.cell? ⟨w.heap.size, 0, none⟩ = some (.int .i64 N) := (hbel2.cell (p := ⟨w.heap.size, 0, none⟩) hgs).trans c0r
          have c1w : wr.cell? ⟨w.heap.size, 1, none⟩ = some (.slice (some ⟨b, o, none⟩) T.length cap) := (hbel2.cell (p := ⟨w.heap.size, 1, none⟩) hgs).trans c1r
          have hz2 := hbel2.size
          have hownw := own_below Hhown.out hbel2 (Nat.le_refl _)
          by_cases hm3 : m < 3
          · have hcc := (hbel2.cell (p := ⟨b, o + k * 3 + m, none⟩) hbw).trans (Hhcell.out m hm3)
            have hmm : ∀ b2 : Bool, (b2 = false ↔ bd = false ∧ 0 ≤ Mesh.vt T (3 * k + m) ∧ Mesh.vt T (3 * k + m) < N) → (b2 = false ↔ ∀ c, 3 * k ≤ c → c < 3 * k + (m + 1) → 0 ≤ Mesh.vt T c ∧ Mesh.vt T c < N) := fun b2 hb2 => by
              rw [hb2, hbd]
              constructor
              · rintro ⟨h1, h2⟩ c h3 h4
                by_cases h5 : c = 3 * k + m
                · rw [h5]; exact h2
                · exact h1 c h3 (by omega)
              · intro h1
                exact ⟨fun c h3 h4 => h1 c h3 (by omega), h1 _ (by omega) (by omega)⟩
            generalize Mesh.vt T (3 * k + m) = x at *
            cases bd with
            | true =>
              have Hhownw := Lib.hid hownw; clear hownw; have Hhmm := Lib.hid hmm; clear hmm; have Hhbd := Lib.hid hbd; clear hbd
              go_wp2_with fail
              refine Go.Canon.wp_region_text mixed (by kernel_rfl) ?_
              go_wp2_with fail
              refine Go.Canon.chk (by rfl) ?_
              go_wp2_with fail
              exact ⟨⟨m + 1, true, by omega, by simp, rfl, Hhmm.out true (by simp), hbel2.drew⟩, by simp [intOf]; omega⟩
            | false =>
              have Hhownw := Lib.hid hownw; clear hownw; have Hhmm := Lib.hid hmm; clear hmm; have Hhbd := Lib.hid hbd; clear hbd
              by_cases hx : x < 0
              · go_wp2_with fail
                refine Go.Canon.wp_region_text mixed (by kernel_rfl) ?_
                go_wp2_with fail
                refine Go.Canon.chk (by rfl) ?_
                go_wp2_with fail
                exact ⟨⟨m + 1, true, by omega, by simp, rfl, Hhmm.out true (by simp; omega), hbel2.drew⟩, by simp [intOf]; omega⟩
              · by_cases hx2 : N ≤ x
                · go_wp2_with fail
                  refine Go.Canon.wp_region_text mixed (by kernel_rfl) ?_
                  go_wp2_with fail
                  refine Go.Canon.chk (by rfl) ?_
                  go_wp2_with fail
                  exact ⟨⟨m + 1, true, by omega, by simp, rfl, Hhmm.out true (by simp; omega), hbel2.drew⟩, by simp [intOf]; omega⟩
                · have hx3 : 0 ≤ x := by omega
                  have hx4 : x < N := by omega
                  have hx5 : decide (N ≤ x) = false := decide_eq_false hx2
                  clear hx hx2
                  go_wp2_with fail
                  refine Go.Canon.wp_region_text mixed (by kernel_rfl) ?_
                  go_wp2_with fail
                  all_goals first | (exfalso; omega) | skip
                  all_goals
                    refine Go.Canon.chk (by rfl) ?_
                    go_wp2_with fail
                    exact ⟨⟨m + 1, false, by omega, by simp, rfl, Hhmm.out false (by simp; omega), hbel2.drew⟩, by simp [intOf]; omega⟩
          · obtain rfl : m = 3 := by omega
            have hall : bd = false → (n = 0 ↔ ∀ c, c < 3 * (k + 1) → 0 ≤ Mesh.vt T c ∧ Mesh.vt T c < N) := fun h => by
              rw [Hhgood.out]
              constructor
              · intro h1 c hc
                by_cases h2 : c < 3 * k
                · exact h1 c h2
                · exact hbd.1 h c (by omega) (by omega)
              · exact fun h1 c hc => h1 c (by omega)
            have hnot : bd = true → (n + 1 = 0 ↔ ∀ c, c < 3 * (k + 1) → 0 ≤ Mesh.vt T c ∧ Mesh.vt T c < N) := fun h => by
              constructor
              · intro h1; omega
              · intro h1
                have := hbd.2 fun c h3 h4 => h1 c (by omega)
                rw [h] at this
                cases this
            have hbz := hbel.trans (hbel2.mono hsz)
            cases bd with
            | true =>
              have Hhownw := Lib.hid hownw; clear hownw; have Hhall := Lib.hid hall; clear hall; have Hhnot := Lib.hid hnot; clear hnot; have Hhbd := Lib.hid hbd; clear hbd
              go_wp2_with (at_builtin; refine append_block _ rfl (.tmp 58) (.tmp 61) 75 rfl w0.heap.size info_wit9 Try.underlying75 rfl (by decide) _ n xs rfl (Hhownw.out.alloc _) wr.heap.size [.int .i64 1, .int .i64 k, .int .i64 0] rfl (Bk.new _ _ _) rfl (by simp [Value.oneCell']) (by omega) (by omega) (by simp; omega) ?_; intro v1 w5 hown5 hb5 _ _; have Hhown5 := Lib.hid hown5; clear hown5)
              exact ⟨⟨k + 1, n + 1, _, by omega, by simp, Hhown5.out, Hhnot.out rfl, by omega, (hbz.alloc (by omega) _).trans hb5⟩, by simp [intOf]; omega⟩
            | false =>
              have Hhownw := Lib.hid hownw; clear hownw; have Hhall := Lib.hid hall; clear hall; have Hhnot := Lib.hid hnot; clear hnot; have Hhbd := Lib.hid hbd; clear hbd
              go_wp2_with fail
              exact ⟨⟨k + 1, n, xs, by omega, by simp, Hhownw.out, Hhall.out rfl, by omega, hbz⟩, by simp [intOf]; omega⟩
      · obtain rfl : k = T.length := by omega
        have hfin : Wz w1 w.heap.size _ (Idx N T) := ⟨n, xs, own_base hown (by omega), hgood.trans ⟨fun h9 => ⟨p1, p2, h9⟩, fun h9 => h9.2.2⟩, by omega⟩
        have Hhown := Lib.hid hown; clear hown; have Hhgood := Lib.hid hgood; clear hgood; have Hhfin := Lib.hid hfin; clear hfin
        go_wp2_with fail
        go_ret
        exact ⟨⟨_, rfl, Hhfin.out⟩, hb1.trans (hbel.mono hb1.size)⟩

set_option maxRecDepth 20000 in
set_option maxHeartbeats 4000000 in
theorem pairs9_calls (sv : Value) (N : Int) (T : List T3) (kind : Int) (p : T3 → T3 → Bool) (hkind : (kind = 3 ∧ p = twB) ∨ (kind = 4 ∧ p = vsB)) (w : World) {B : Nat} (hB0 : B ≤ w.heap.size) (hT : Sl 3 RTri w B sv T) (hfew : T.length ≤ 200) :
    Calls Try.prog 42 #[.agg #[.int .i64 N, sv], .int .i64 kind] w fun e w' => (∃ v', e = .returned v' ∧ Wz w' w.heap.size v' (NoPair p T T.length)) ∧ Below w.heap.size w w' := by
  obtain ⟨A, cap, rfl, hcap⟩ := hT.form
  have hbox := Bk.new w 24 [.int .i64 N, .slice A T.length cap]
  have hb1 := (Below.refl w.heap.size w).alloc (Nat.le_refl _) (.cells #[.int .i64 N, .slice A T.length cap] 24)
  have hTA := hT.below keeps_tri (hb1.mono hB0)
  have hle : B ≤ (w.alloc (.cells #[.int .i64 N, .slice A T.length cap] 24)).heap.size := by rw [World.size_alloc]; omega
  have c1 := hbox.cell 1
  simp only [List.getElem?_cons_zero, List.getElem?_cons_succ] at c1
  have hz0 : w.heap.size < (w.alloc (.cells #[.int .i64 N, .slice A T.length cap] 24)).heap.size := by rw [World.size_alloc]; omega
  generalize hw0 : w.alloc (.cells #[.int .i64 N, .slice A T.length cap] 24) = w0 at *
  have HhT := Lib.hid hT; clear hT; have HhTA := Lib.hid hTA; clear hTA; have Hhbox := Lib.hid hbox; clear hbox; have Hhkind := Lib.hid hkind; clear hkind
  go_enter Try.func42, Try.ntmps42
  go_wp2_with fail
  clear hw0
  go_loopw [5, 6] (fun l i wr => ∃ (k n : Nat) (xs : List Value), k ≤ T.length ∧ i = .int .i64 k ∧ wr.ownsRow w0.heap.size 90 3 l n xs ∧ (n = 0 ↔ NoPair p T k) ∧ n ≤ k * 200 ∧ Below w0.heap.size w0 wr) (fun _ i _ => T.length - (intOf i).toNat)
  case atStart => exact ⟨0, 0, [], by omega, rfl, World.ownsRow_nil _ _ _ _, ⟨fun _ b a hb => by omega, fun _ => rfl⟩, by omega, Below.refl _ _⟩
  case round =>
    obtain ⟨k, n, xs, hk, rfl, hown, hgood, hnk, hbel⟩ := hrel
    obtain ⟨w1, hw1⟩ : ∃ w1, w1 = wr := ⟨_, rfl⟩
    subst hw1
    have c1r : w1.cell? ⟨w.heap.size, 1, none⟩ = some (.slice A T.length cap) := (hbel.cell (p := ⟨w.heap.size, 1, none⟩) hz0).trans c1
    have hsz := hbel.size
    by_cases hlt : k < T.length
    · have Hhown := Lib.hid hown; clear hown; have Hhgood := Lib.hid hgood; clear hgood
      go_wp2_with fail
      go_loopw [5, 7] (fun l i wr => ∃ (m n : Nat) (xs : List Value), m ≤ k ∧ i = .int .i64 m ∧ wr.ownsRow w0.heap.size 90 3 l n xs ∧ (n = 0 ↔ NoPair p T k ∧ ∀ a, a < m → p (triAt T a) (triAt T k) = false) ∧ n ≤ k * 200 + m ∧ Below w0.heap.size w0 wr) (fun _ i _ => k - (intOf i).toNat)
      case atStart => exact ⟨0, n, xs, by omega, rfl, Hhown.out, Hhgood.out.trans ⟨fun h => ⟨h, fun a ha => by omega⟩, fun h => h.1⟩, by omega, hbel⟩
      case round =>
        clear hnk c1r hsz hbel
        obtain ⟨m, n2, xs2, hm, rfl, hown2, hgood2, hnk2, hbel2⟩ := hrel
        obtain ⟨w2, hw2⟩ : ∃ w2, w2 = wr := ⟨_, rfl⟩
        subst hw2
        have c1w : w2.cell? ⟨w.heap.size, 1, none⟩ = some (.slice A T.length cap) := (hbel2.cell (p := ⟨w.heap.size, 1, none⟩) hz0).trans c1
        have hsz2 := hbel2.size
        have hgs : w.heap.size < w2.heap.size := by omega
        have hTr := HhTA.out.below keeps_tri (hbel2.mono hle)
        by_cases hmk : m < k
        · obtain ⟨b, o, hAe, hb, a1, a2, a3⟩ := hTr.tri_at (k := m) (by omega)
          obtain ⟨b', o', hAe', hb', b1, b2, b3⟩ := hTr.tri_at hlt
          subst hAe
          injection hAe' with hAe'
          injection hAe' with hAe' hAo
          subst hAe'; subst hAo
          have hbw : b < w2.heap.size := by omega
          have hmlt : m < T.length := by omega
          rw [triAt_get hmlt] at a1 a2 a3
          rw [triAt_get hlt] at b1 b2 b3
          have hstep : ∀ n3 : Nat, (n3 = 0 ↔ n2 = 0 ∧ p (triAt T m) (triAt T k) = false) → (n3 = 0 ↔ NoPair p T k ∧ ∀ a, a < m + 1 → p (triAt T a) (triAt T k) = false) := fun n3 h3 => by
            rw [h3, hgood2]
            constructor
            · rintro ⟨⟨h4, h5⟩, h6⟩
              refine ⟨h4, fun a ha => ?_⟩
              by_cases h7 : a = m
              · rw [h7]; exact h6
              · exact h5 a (by omega)
            · rintro ⟨h4, h5⟩
              exact ⟨⟨h4, fun a ha => h5 a (by omega)⟩, h5 m (by omega)⟩
          generalize triAt T m = x at *
          generalize triAt T k = y at *
          obtain ⟨x1, x2, x3⟩ := x
          obtain ⟨y1, y2, y3⟩ := y
          simp only [] at a1 a2 a3 b1 b2 b3
          have kb1 : ∀ X : Obj, Go.Canon.KeepU (fun b => b < w2.heap.size) w2.drew (w2.drew.alloc X) := fun X => keep_below (B := w2.heap.size) ((Below.refl w2.heap.size w2.drew).alloc (Nat.le_refl _) X)
          have kb2 : ∀ X Y : Obj, Go.Canon.KeepU (fun b => b < w2.heap.size) w2.drew ((w2.drew.alloc X).alloc Y) := fun X Y => keep_below (B := w2.heap.size) (((Below.refl w2.heap.size w2.drew).alloc (Nat.le_refl _) X).alloc (by simp) Y)
          have Hhown2 := Lib.hid hown2; clear hown2; have Hhgood2 := Lib.hid hgood2; clear hgood2; have HhTr := Lib.hid hTr; clear hTr; have Hhstep := Lib.hid hstep; clear hstep
          go_wp2_with fail
          refine Go.Canon.wp_region_tree [1, 4, 6, 9] (fun b => b < w2.heap.size) (.seg [0,1,2,3,4,5,6,7,8,9] (.alt 10 (.alt 11 (.alt 12 (.alt 13 .fin .no) .no) .no) (.alt 11 (.alt 10 (.alt 12 (.alt 13 .fin .no) .no) .no) .no))) mixed (by kernel_rfl) ?_
          refine Go.Canon.tr_seg ?_
          simp only [List.map_cons, List.map_nil, List.getD_cons_zero, List.getD_cons_succ]
          go_wp2_with fail
          refine Go.Canon.tr_to (Go.Canon.tr_alt ?_ (Go.Canon.tr_alt ?_ Go.Canon.tr_no))
          · simp only [List.getD_cons_zero, List.getD_cons_succ]
            go_wp2_with fail
            refine Go.Canon.tr_end (kb1 _) (Go.Canon.tr_one ?_)
            simp only [List.getD_cons_zero, List.getD_cons_succ]
            go_wp2_with fail
            refine Go.Canon.tr_end (kb2 _ _) (Go.Canon.tr_one ?_)
            simp only [List.getD_cons_zero, List.getD_cons_succ]
            go_wp2_with fail
            refine Go.Canon.tr_end (kb2 _ _) (Go.Canon.tr_one ?_)
            simp only [List.getD_cons_zero, List.getD_cons_succ]
            go_wp2_with fail
            refine Go.Canon.tr_end (kb2 _ _) (Go.Canon.tr_fin (by rfl) (List.forall_mem_cons.2 ⟨.inl ⟨_, rfl, hgs, by rw [World.cell?_drew, c1w]; rfl⟩, List.forall_mem_cons.2 ⟨.inl ⟨_, rfl, hbw, by rw [World.cell?_drew, a1]; rfl⟩, List.forall_mem_cons.2 ⟨.inl ⟨_, rfl, hgs, by rw [World.cell?_drew, c1w]; rfl⟩, List.forall_mem_cons.2 ⟨.inl ⟨_, rfl, hbw, by rw [World.cell?_drew, b1]; rfl⟩, fun _ h => by cases h⟩⟩⟩⟩) ?_)
            have hbelp := ((hbel2.alloc hsz2 (.cells #[.int .i64 x1, .int .i64 x2, .int .i64 x3] 43)).alloc (by simp; omega) (.cells #[.int .i64 y1, .int .i64 y2, .int .i64 y3] 43)).drew
            have hbx := ((Bk.new w2 43 [.int .i64 x1, .int .i64 x2, .int .i64 x3]).alloc (.cells #[.int .i64 y1, .int .i64 y2, .int .i64 y3] 43)).drew
            have hby := (Bk.new' (n := w2.heap.size + 1) (w := w2.alloc (.cells #[.int .i64 x1, .int .i64 x2, .int .i64 x3] 43)) 43 [.int .i64 y1, .int .i64 y2, .int .i64 y3] (by simp)).drew
            have hownp := own_below Hhown2.out (((Below.refl w2.heap.size w2).alloc (Nat.le_refl _) (.cells #[.int .i64 x1, .int .i64 x2, .int .i64 x3] 43)).alloc (by simp) (.cells #[.int .i64 y1, .int .i64 y2, .int .i64 y3] 43)).drew (Nat.le_refl _)
            have hw2p : w2.heap.size + 2 ≤ ((w2.alloc (.cells #[.int .i64 x1, .int .i64 x2, .int .i64 x3] 43)).alloc (.cells #[.int .i64 y1, .int .i64 y2, .int .i64 y3] 43)).drew.heap.size := by simp
            generalize hwp : ((w2.alloc (.cells #[.int .i64 x1, .int .i64 x2, .int .i64 x3] 43)).alloc (.cells #[.int .i64 y1, .int .i64 y2, .int .i64 y3] 43)).drew = wp at *
            have hcx : ∀ wz, Below wp.heap.size wp wz → wz.cell? ⟨w2.heap.size, 0, none⟩ = some (.int .i64 x1) ∧ wz.cell? ⟨w2.heap.size, 1, none⟩ = some (.int .i64 x2) ∧ wz.cell? ⟨w2.heap.size, 2, none⟩ = some (.int .i64 x3) ∧ wz.cell? ⟨(w2.heap.size + 1), 0, none⟩ = some (.int .i64 y1) ∧ wz.cell? ⟨(w2.heap.size + 1), 1, none⟩ = some (.int .i64 y2) ∧ wz.cell? ⟨(w2.heap.size + 1), 2, none⟩ = some (.int .i64 y3) := fun wz hz => by
              have g1 := hbx.below hz hbx.lt
              have g2 := hby.below hz hby.lt
              exact ⟨g1.cell 0, g1.cell 1, g1.cell 2, g2.cell 0, g2.cell 1, g2.cell 2⟩
            have hzp := hbelp.size
            clear hwp
            have Hhbx := Lib.hid hbx; clear hbx; have Hhby := Lib.hid hby; clear hby; have Hhownp := Lib.hid hownp; clear hownp; have Hhcx := Lib.hid hcx; clear hcx
            rcases Hhkind.out with ⟨rfl, rfl⟩ | ⟨rfl, rfl⟩
            · obtain ⟨d0, d1, d2, d3, d4, d5⟩ := Hhcx.out wp (Below.refl _ _)
              have htw := twice9_calls (x1, x2, x3) (y1, y2, y3)
              have Hhtw := Lib.hid htw; clear htw
              go_wp2_with fail
              refine (Hhtw.out _).mono ?_
              rintro e wz ⟨rfl, hbz⟩
              have hownz := own_below Hhownp.out hbz (Nat.le_refl _)
              have hz9 := hbz.size
              cases hq : twB (x1, x2, x3) (y1, y2, y3) with
              | false =>
                have hs9 := Hhstep.out n2 (by simp [hq])
                have Hhownz := Lib.hid hownz; clear hownz; have Hhs9 := Lib.hid hs9; clear hs9; have Hhq := Lib.hid hq; clear hq
                go_wp2_with fail
                exact ⟨⟨m + 1, n2, xs2, by omega, by simp, Hhownz.out, Hhs9.out, by omega, hbelp.trans (hbz.mono hbelp.size)⟩, by simp [intOf]; omega⟩
              | true =>
                have hs9 := Hhstep.out (n2 + 1) (by simp [hq])
                have Hhownz := Lib.hid hownz; clear hownz; have Hhs9 := Lib.hid hs9; clear hs9; have Hhq := Lib.hid hq; clear hq
                go_wp2_with (at_builtin; refine append_block _ rfl (.tmp 61) (.tmp 66) 75 rfl w0.heap.size info_wit9 Try.underlying75 rfl (by decide) _ n2 xs2 rfl (Hhownz.out.alloc _) wz.heap.size [.int .i64 3, .int .i64 m, .int .i64 k] rfl (Bk.new _ _ _) rfl (by simp [Value.oneCell']) (by omega) (by omega) (by simp; omega) ?_; intro v1 w5 hown5 hb5 _ _; have Hhown5 := Lib.hid hown5; clear hown5)
                exact ⟨⟨m + 1, n2 + 1, _, by omega, by simp, Hhown5.out, Hhs9.out, by omega, ((hbelp.trans (hbz.mono hbelp.size)).alloc (by omega) _).trans hb5⟩, by simp [intOf]; omega⟩
            · have hvs : vsB (x1, x2, x3) (y1, y2, y3) = (haB (y1, y2, y3) x1 && haB (y1, y2, y3) x2 && haB (y1, y2, y3) x3) := rfl
              have hha := fun v => has9_calls (y1, y2, y3) v
              obtain ⟨d0, d1, d2, d3, d4, d5⟩ := Hhcx.out wp (Below.refl _ _)
              have Hhha := Lib.hid hha; clear hha
              go_wp2_with fail
              refine (Hhha.out _ _).mono ?_
              rintro e wz ⟨rfl, hbz⟩
              clear d0 d1 d2 d3 d4 d5
              obtain ⟨d0, d1, d2, d3, d4, d5⟩ := Hhcx.out wz hbz
              cases hq1 : haB (y1, y2, y3) x1 with
              | false =>
                rw [hq1] at hvs
                have hownz := own_below Hhownp.out hbz (Nat.le_refl _)
                have hs9 := Hhstep.out n2 (by simp [hvs])
                have Hhownz := Lib.hid hownz; clear hownz; have Hhs9 := Lib.hid hs9; clear hs9; have Hhq1 := Lib.hid hq1; clear hq1; have Hhvs := Lib.hid hvs; clear hvs
                go_wp2_with fail
                exact ⟨⟨m + 1, n2, xs2, by omega, by simp, Hhownz.out, Hhs9.out, by omega, hbelp.trans (hbz.mono hbelp.size)⟩, by simp [intOf]; omega⟩
              | true =>
                rw [hq1] at hvs
                have Hhq1 := Lib.hid hq1; clear hq1; have Hhvs := Lib.hid hvs; clear hvs
                go_wp2_with fail
                refine (Hhha.out _ _).mono ?_
                rintro e wz2 ⟨rfl, hbz2⟩
                clear d0 d1 d2 d3 d4 d5
                have hbz := hbz.trans (hbz2.mono hbz.size)
                clear hbz2
                obtain ⟨d0, d1, d2, d3, d4, d5⟩ := Hhcx.out wz2 hbz
                have hvs := Hhvs.out
                cases hq2 : haB (y1, y2, y3) x2 with
                | false =>
                  rw [hq2] at hvs
                  have hownz := own_below Hhownp.out hbz (Nat.le_refl _)
                  have hs9 := Hhstep.out n2 (by simp [hvs])
                  have Hhownz := Lib.hid hownz; clear hownz; have Hhs9 := Lib.hid hs9; clear hs9; have Hhq2 := Lib.hid hq2; clear hq2; have Hhvs := Lib.hid hvs; clear hvs
                  go_wp2_with fail
                  exact ⟨⟨m + 1, n2, xs2, by omega, by simp, Hhownz.out, Hhs9.out, by omega, hbelp.trans (hbz.mono hbelp.size)⟩, by simp [intOf]; omega⟩
                | true =>
                  rw [hq2] at hvs
                  have Hhq2 := Lib.hid hq2; clear hq2; have Hhvs := Lib.hid hvs; clear hvs
                  go_wp2_with fail
                  refine (Hhha.out _ _).mono ?_
                  rintro e wz3 ⟨rfl, hbz3⟩
                  clear d0 d1 d2 d3 d4 d5
                  have hbz := hbz.trans (hbz3.mono hbz.size)
                  clear hbz3
                  have hvs := Hhvs.out
                  have hownz := own_below Hhownp.out hbz (Nat.le_refl _)
                  have hz9 := hbz.size
                  cases hq : haB (y1, y2, y3) x3 with
                  | false =>
                    have hs9 := Hhstep.out n2 (by simp [hvs, hq])
                    have Hhownz := Lib.hid hownz; clear hownz; have Hhs9 := Lib.hid hs9; clear hs9; have Hhq := Lib.hid hq; clear hq
                    go_wp2_with fail
                    exact ⟨⟨m + 1, n2, xs2, by omega, by simp, Hhownz.out, Hhs9.out, by omega, hbelp.trans (hbz.mono hbelp.size)⟩, by simp [intOf]; omega⟩
                  | true =>
                    have hs9 := Hhstep.out (n2 + 1) (by simp [hvs, hq])
                    have Hhownz := Lib.hid hownz; clear hownz; have Hhs9 := Lib.hid hs9; clear hs9; have Hhq := Lib.hid hq; clear hq
                    go_wp2_with (at_builtin; refine append_block _ rfl (.tmp 61) (.tmp 66) 75 rfl w0.heap.size info_wit9 Try.underlying75 rfl (by decide) _ n2 xs2 rfl (Hhownz.out.alloc _) wz3.heap.size [.int .i64 4, .int .i64 m, .int .i64 k] rfl (Bk.new _ _ _) rfl (by simp [Value.oneCell']) (by omega) (by omega) (by simp; omega) ?_; intro v1 w5 hown5 hb5 _ _; have Hhown5 := Lib.hid hown5; clear hown5)
                    exact ⟨⟨m + 1, n2 + 1, _, by omega, by simp, Hhown5.out, Hhs9.out, by omega, ((hbelp.trans (hbz.mono hbelp.size)).alloc (by omega) _).trans hb5⟩, by simp [intOf]; omega⟩
          · simp only [List.getD_cons_zero, List.getD_cons_succ]
            go_wp2_with fail
            refine Go.Canon.tr_end (kb1 _) (Go.Canon.tr_one ?_)
            simp only [List.getD_cons_zero, List.getD_cons_succ]
            go_wp2_with fail
            refine Go.Canon.tr_end (kb2 _ _) (Go.Canon.tr_one ?_)
            simp only [List.getD_cons_zero, List.getD_cons_succ]
            go_wp2_with fail
            refine Go.Canon.tr_end (kb2 _ _) (Go.Canon.tr_one ?_)
            simp only [List.getD_cons_zero, List.getD_cons_succ]
            go_wp2_with fail
            refine Go.Canon.tr_end (kb2 _ _) (Go.Canon.tr_fin (by rfl) (List.forall_mem_cons.2 ⟨.inl ⟨_, rfl, hgs, by rw [World.cell?_drew, c1w]; rfl⟩, List.forall_mem_cons.2 ⟨.inl ⟨_, rfl, hbw, by rw [World.cell?_drew, a1]; rfl⟩, List.forall_mem_cons.2 ⟨.inl ⟨_, rfl, hgs, by rw [World.cell?_drew, c1w]; rfl⟩, List.forall_mem_cons.2 ⟨.inl ⟨_, rfl, hbw, by rw [World.cell?_drew, b1]; rfl⟩, fun _ h => by cases h⟩⟩⟩⟩) ?_)
            have hbelp := ((hbel2.alloc hsz2 (.cells #[.int .i64 y1, .int .i64 y2, .int .i64 y3] 43)).alloc (by simp; omega) (.cells #[.int .i64 x1, .int .i64 x2, .int .i64 x3] 43)).drew
            have hby := ((Bk.new w2 43 [.int .i64 y1, .int .i64 y2, .int .i64 y3]).alloc (.cells #[.int .i64 x1, .int .i64 x2, .int .i64 x3] 43)).drew
            have hbx := (Bk.new' (n := w2.heap.size + 1) (w := w2.alloc (.cells #[.int .i64 y1, .int .i64 y2, .int .i64 y3] 43)) 43 [.int .i64 x1, .int .i64 x2, .int .i64 x3] (by simp)).drew
            have hownp := own_below Hhown2.out (((Below.refl w2.heap.size w2).alloc (Nat.le_refl _) (.cells #[.int .i64 y1, .int .i64 y2, .int .i64 y3] 43)).alloc (by simp) (.cells #[.int .i64 x1, .int .i64 x2, .int .i64 x3] 43)).drew (Nat.le_refl _)
            have hw2p : w2.heap.size + 2 ≤ ((w2.alloc (.cells #[.int .i64 y1, .int .i64 y2, .int .i64 y3] 43)).alloc (.cells #[.int .i64 x1, .int .i64 x2, .int .i64 x3] 43)).drew.heap.size := by simp
            generalize hwp : ((w2.alloc (.cells #[.int .i64 y1, .int .i64 y2, .int .i64 y3] 43)).alloc (.cells #[.int .i64 x1, .int .i64 x2, .int .i64 x3] 43)).drew = wp at *
            have hcx : ∀ wz, Below wp.heap.size wp wz → wz.cell? ⟨(w2.heap.size + 1), 0, none⟩ = some (.int .i64 x1) ∧ wz.cell? ⟨(w2.heap.size + 1), 1, none⟩ = some (.int .i64 x2) ∧ wz.cell? ⟨(w2.heap.size + 1), 2, none⟩ = some (.int .i64 x3) ∧ wz.cell? ⟨w2.heap.size, 0, none⟩ = some (.int .i64 y1) ∧ wz.cell? ⟨w2.heap.size, 1, none⟩ = some (.int .i64 y2) ∧ wz.cell? ⟨w2.heap.size, 2, none⟩ = some (.int .i64 y3) := fun wz hz => by
              have g1 := hbx.below hz hbx.lt
              have g2 := hby.below hz hby.lt
              exact ⟨g1.cell 0, g1.cell 1, g1.cell 2, g2.cell 0, g2.cell 1, g2.cell 2⟩
            have hzp := hbelp.size
            clear hwp
            have Hhbx := Lib.hid hbx; clear hbx; have Hhby := Lib.hid hby; clear hby; have Hhownp := Lib.hid hownp; clear hownp; have Hhcx := Lib.hid hcx; clear hcx
            rcases Hhkind.out with ⟨rfl, rfl⟩ | ⟨rfl, rfl⟩
            · obtain ⟨d0, d1, d2, d3, d4, d5⟩ := Hhcx.out wp (Below.refl _ _)
              have htw := twice9_calls (x1, x2, x3) (y1, y2, y3)
              have Hhtw := Lib.hid htw; clear htw
              go_wp2_with fail
              refine (Hhtw.out _).mono ?_
              rintro e wz ⟨rfl, hbz⟩
              have hownz := own_below Hhownp.out hbz (Nat.le_refl _)
              have hz9 := hbz.size
              cases hq : twB (x1, x2, x3) (y1, y2, y3) with
              | false =>
                have hs9 := Hhstep.out n2 (by simp [hq])
                have Hhownz := Lib.hid hownz; clear hownz; have Hhs9 := Lib.hid hs9; clear hs9; have Hhq := Lib.hid hq; clear hq
                go_wp2_with fail
                exact ⟨⟨m + 1, n2, xs2, by omega, by simp, Hhownz.out, Hhs9.out, by omega, hbelp.trans (hbz.mono hbelp.size)⟩, by simp [intOf]; omega⟩
              | true =>
                have hs9 := Hhstep.out (n2 + 1) (by simp [hq])
                have Hhownz := Lib.hid hownz; clear hownz; have Hhs9 := Lib.hid hs9; clear hs9; have Hhq := Lib.hid hq; clear hq
                go_wp2_with (at_builtin; refine append_block _ rfl (.tmp 61) (.tmp 66) 75 rfl w0.heap.size info_wit9 Try.underlying75 rfl (by decide) _ n2 xs2 rfl (Hhownz.out.alloc _) wz.heap.size [.int .i64 3, .int .i64 m, .int .i64 k] rfl (Bk.new _ _ _) rfl (by simp [Value.oneCell']) (by omega) (by omega) (by simp; omega) ?_; intro v1 w5 hown5 hb5 _ _; have Hhown5 := Lib.hid hown5; clear hown5)
                exact ⟨⟨m + 1, n2 + 1, _, by omega, by simp, Hhown5.out, Hhs9.out, by omega, ((hbelp.trans (hbz.mono hbelp.size)).alloc (by omega) _).trans hb5⟩, by simp [intOf]; omega⟩
            · have hvs : vsB (x1, x2, x3) (y1, y2, y3) = (haB (y1, y2, y3) x1 && haB (y1, y2, y3) x2 && haB (y1, y2, y3) x3) := rfl
              have hha := fun v => has9_calls (y1, y2, y3) v
              obtain ⟨d0, d1, d2, d3, d4, d5⟩ := Hhcx.out wp (Below.refl _ _)
              have Hhha := Lib.hid hha; clear hha
              go_wp2_with fail
              refine (Hhha.out _ _).mono ?_
              rintro e wz ⟨rfl, hbz⟩
              clear d0 d1 d2 d3 d4 d5
              obtain ⟨d0, d1, d2, d3, d4, d5⟩ := Hhcx.out wz hbz
              cases hq1 : haB (y1, y2, y3) x1 with
              | false =>
                rw [hq1] at hvs
                have hownz := own_below Hhownp.out hbz (Nat.le_refl _)
                have hs9 := Hhstep.out n2 (by simp [hvs])
                have Hhownz := Lib.hid hownz; clear hownz; have Hhs9 := Lib.hid hs9; clear hs9; have Hhq1 := Lib.hid hq1; clear hq1; have Hhvs := Lib.hid hvs; clear hvs
                go_wp2_with fail
                exact ⟨⟨m + 1, n2, xs2, by omega, by simp, Hhownz.out, Hhs9.out, by omega, hbelp.trans (hbz.mono hbelp.size)⟩, by simp [intOf]; omega⟩
              | true =>
                rw [hq1] at hvs
                have Hhq1 := Lib.hid hq1; clear hq1; have Hhvs := Lib.hid hvs; clear hvs
                go_wp2_with fail
                refine (Hhha.out _ _).mono ?_
                rintro e wz2 ⟨rfl, hbz2⟩
                clear d0 d1 d2 d3 d4 d5
                have hbz := hbz.trans (hbz2.mono hbz.size)
                clear hbz2
                obtain ⟨d0, d1, d2, d3, d4, d5⟩ := Hhcx.out wz2 hbz
                have hvs := Hhvs.out
                cases hq2 : haB (y1, y2, y3) x2 with
                | false =>
                  rw [hq2] at hvs
                  have hownz := own_below Hhownp.out hbz (Nat.le_refl _)
                  have hs9 := Hhstep.out n2 (by simp [hvs])
                  have Hhownz := Lib.hid hownz; clear hownz; have Hhs9 := Lib.hid hs9; clear hs9; have Hhq2 := Lib.hid hq2; clear hq2; have Hhvs := Lib.hid hvs; clear hvs
                  go_wp2_with fail
                  exact ⟨⟨m + 1, n2, xs2, by omega, by simp, Hhownz.out, Hhs9.out, by omega, hbelp.trans (hbz.mono hbelp.size)⟩, by simp [intOf]; omega⟩
                | true =>
                  rw [hq2] at hvs
                  have Hhq2 := Lib.hid hq2; clear hq2; have Hhvs := Lib.hid hvs; clear hvs
                  go_wp2_with fail
                  refine (Hhha.out _ _).mono ?_
                  rintro e wz3 ⟨rfl, hbz3⟩
                  clear d0 d1 d2 d3 d4 d5
                  have hbz := hbz.trans (hbz3.mono hbz.size)
                  clear hbz3
                  have hvs := Hhvs.out
                  have hownz := own_below Hhownp.out hbz (Nat.le_refl _)
                  have hz9 := hbz.size
                  cases hq : haB (y1, y2, y3) x3 with
                  | false =>
                    have hs9 := Hhstep.out n2 (by simp [hvs, hq])
                    have Hhownz := Lib.hid hownz; clear hownz; have Hhs9 := Lib.hid hs9; clear hs9; have Hhq := Lib.hid hq; clear hq
                    go_wp2_with fail
                    exact ⟨⟨m + 1, n2, xs2, by omega, by simp, Hhownz.out, Hhs9.out, by omega, hbelp.trans (hbz.mono hbelp.size)⟩, by simp [intOf]; omega⟩
                  | true =>
                    have hs9 := Hhstep.out (n2 + 1) (by simp [hvs, hq])
                    have Hhownz := Lib.hid hownz; clear hownz; have Hhs9 := Lib.hid hs9; clear hs9; have Hhq := Lib.hid hq; clear hq
                    go_wp2_with (at_builtin; refine append_block _ rfl (.tmp 61) (.tmp 66) 75 rfl w0.heap.size info_wit9 Try.underlying75 rfl (by decide) _ n2 xs2 rfl (Hhownz.out.alloc _) wz3.heap.size [.int .i64 4, .int .i64 m, .int .i64 k] rfl (Bk.new _ _ _) rfl (by simp [Value.oneCell']) (by omega) (by omega) (by simp; omega) ?_; intro v1 w5 hown5 hb5 _ _; have Hhown5 := Lib.hid hown5; clear hown5)
                    exact ⟨⟨m + 1, n2 + 1, _, by omega, by simp, Hhown5.out, Hhs9.out, by omega, ((hbelp.trans (hbz.mono hbelp.size)).alloc (by omega) _).trans hb5⟩, by simp [intOf]; omega⟩
        · obtain rfl : m = k := by omega
          have Hhown2 := Lib.hid hown2; clear hown2; have Hhgood2 := Lib.hid hgood2; clear hgood2
          go_wp2_with fail
          refine ⟨⟨m + 1, n2, xs2, by omega, by simp, Hhown2.out, Hhgood2.out.trans ⟨fun h b a hb ha => ?_, fun h => ⟨fun b a hb => h b a (by omega), fun a ha => h m a (by omega) ha⟩⟩, by omega, hbel2⟩, by simp [intOf]; omega⟩
          by_cases h7 : b = m
          · subst h7; exact h.2 a ha
          · exact h.1 b a (by omega) ha
    · obtain rfl : k = T.length := by omega
      have hfin : Wz w1 w.heap.size _ (NoPair p T T.length) := ⟨n, xs, own_base hown (by omega), hgood, by omega⟩
      have Hhown := Lib.hid hown; clear hown; have Hhgood := Lib.hid hgood; clear hgood; have Hhfin := Lib.hid hfin; clear hfin
      go_wp2_with fail
      go_ret
      exact ⟨⟨_, rfl, Hhfin.out⟩, hb1.trans (hbel.mono hb1.size)⟩
end Go.Proofs.Ytpbdcppaiafbgaa

namespace Go.Mesh
/-- Have x and y one of x's first m vertices in common, v aside? -/
def adP (v : Int) (x y : T3) : Nat → Bool
  | 0 => false
  | m + 1 => adP v x y m || (vx x m != v && haB y (vx x m))
def adB (v : Int) (x y : T3) : Bool := adP v x y 3
theorem haB_iff {t : T3} {v : Int} : haB t v = true ↔ HasV t v := by
  unfold haB HasV
  simp only [Bool.or_eq_true, beq_iff_eq, or_assoc]
  constructor <;> rintro (h | h | h) <;> simp [h]
theorem adP_iff {v : Int} {x y : T3} : ∀ m, adP v x y m = true ↔ ∃ j, j < m ∧ vx x j ≠ v ∧ HasV y (vx x j)
  | 0 => by simp [adP]
  | m + 1 => by
    unfold adP
    rw [Bool.or_eq_true, adP_iff m, Bool.and_eq_true, haB_iff, bne_iff_ne]
    constructor
    · rintro (⟨j, h1, h2⟩ | ⟨h1, h2⟩)
      · exact ⟨j, by omega, h2⟩
      · exact ⟨m, by omega, h1, h2⟩
    · rintro ⟨j, h1, h2⟩
      by_cases hj : j = m
      · subst hj; exact .inr h2
      · exact .inl ⟨j, by omega, h2⟩
theorem adB_iff {v : Int} {x y : T3} : adB v x y = true ↔ ∃ u, u ≠ v ∧ HasV x u ∧ HasV y u := by
  unfold adB
  rw [adP_iff]
  constructor
  · rintro ⟨j, h1, h2, h3⟩
    exact ⟨_, h2, vx_has.2 ⟨j, h1, rfl⟩, h3⟩
  · rintro ⟨u, h1, h2, h3⟩
    obtain ⟨j, h4, rfl⟩ := vx_has.1 h2
    exact ⟨j, h4, h1, h3⟩

section
variable (L : List T3) (v : Int)
def ShutB (P : Nat → Prop) : Prop := ∀ i k, i < L.length → k < L.length → P i → adB v (triAt L i) (triAt L k) = true → P k
/-- All triangles are reached from the first. -/
def Cn : Prop := ∀ P : Nat → Prop, P 0 → ShutB L v P → ∀ k, k < L.length → P k
/-- Marks that are at the first, and only where one comes from it. -/
structure Mk (M : List Bool) : Prop where
  len : M.length = L.length
  zero : M[0]? = some true
  sound : ∀ P : Nat → Prop, P 0 → ShutB L v P → ∀ k, M[k]? = some true → P k
def Done (M : List Bool) : Prop := ShutB L v fun k => M[k]? = some true
/-- So far in a round: enough new marks, or none needed, or none at the pairs looked at. -/
def Mid (r i k : Nat) (M : List Bool) : Prop := r + 2 ≤ M.count true ∨ Done L v M ∨
  (r + 1 ≤ M.count true ∧ ∀ i' k', (i' < i ∨ i' = i ∧ k' < k) → i' < L.length → k' < L.length → M[i']? = some true → adB v (triAt L i') (triAt L k') = true → M[k']? = some true)
def Top (r : Nat) (M : List Bool) : Prop := r + 1 ≤ M.count true ∨ Done L v M
end
variable {L : List T3} {v : Int} {M : List Bool} {r i k : Nat}
theorem Mk.start (h : 0 < L.length) : Mk L v ((List.replicate L.length false).set 0 true) where
  len := by simp
  zero := by rw [List.getElem?_set_self (by simpa using h)]
  sound := fun P h0 _ k hk => by
    by_cases hk0 : k = 0
    · subst hk0; exact h0
    · rw [List.getElem?_set_ne (by omega), List.getElem?_replicate] at hk
      split at hk <;> cases hk
theorem Top.start (h : 0 < L.length) : Top L v 0 ((List.replicate L.length false).set 0 true) := by
  left
  have : true ∈ (List.replicate L.length false).set 0 true := List.mem_iff_getElem?.2 ⟨0, by rw [List.getElem?_set_self (by simpa using h)]⟩
  have := List.count_pos_iff.2 this
  omega
theorem Top.mid (h : Top L v r M) : Mid L v r 0 0 M := by
  rcases h with h | h
  · exact .inr (.inr ⟨h, fun i' k' h1 => by omega⟩)
  · exact .inr (.inl h)
theorem Mid.row (h : Mid L v r i L.length M) : Mid L v r (i + 1) 0 M := by
  rcases h with h | h | ⟨h1, h2⟩
  · exact .inl h
  · exact .inr (.inl h)
  · exact .inr (.inr ⟨h1, fun i' k' h3 h4 h5 => h2 i' k' (by omega) h4 h5⟩)
theorem Mid.top (h : Mid L v r L.length 0 M) : Top L v (r + 1) M := by
  rcases h with h | h | ⟨h1, h2⟩
  · exact .inl h
  · exact .inr h
  · exact .inr fun i' k' h4 h5 h6 h7 => h2 i' k' (by omega) h4 h5 h6 h7
/-- A pair that asks for nothing. -/
theorem Mid.pass (h : Mid L v r i k M) (h9 : M[i]? = some true → adB v (triAt L i) (triAt L k) = true → M[k]? = some true) : Mid L v r i (k + 1) M := by
  rcases h with h | h | ⟨h1, h2⟩
  · exact .inl h
  · exact .inr (.inl h)
  · refine .inr (.inr ⟨h1, fun i' k' h3 h4 h5 h6 h7 => ?_⟩)
    by_cases hik : i' = i ∧ k' = k
    · obtain ⟨rfl, rfl⟩ := hik; exact h9 h6 h7
    · exact h2 i' k' (by omega) h4 h5 h6 h7
theorem count_mark (hk : M[k]? = some false) : (M.set k true).count true = M.count true + 1 := by
  obtain ⟨h1, h2⟩ := List.getElem?_eq_some_iff.1 hk
  rw [List.count_set h1, h2]
  simp
/-- A pair that marks. -/
theorem Mid.mark (hm : Mk L v M) (h : Mid L v r i k M) (hi : i < L.length) (hkl : k < L.length) (h1 : M[i]? = some true) (hk : M[k]? = some false) (ha : adB v (triAt L i) (triAt L k) = true) :
    Mk L v (M.set k true) ∧ Mid L v r i (k + 1) (M.set k true) := by
  have hlt := (List.getElem?_eq_some_iff.1 hk).1
  refine ⟨⟨by rw [List.length_set]; exact hm.len, ?_, fun P h0 hs j hj => ?_⟩, ?_⟩
  · by_cases hk0 : k = 0
    · subst hk0; rw [List.getElem?_set_self hlt]
    · rw [List.getElem?_set_ne hk0]; exact hm.zero
  · by_cases hjk : k = j
    · subst hjk
      exact hs i k hi hkl (hm.sound P h0 hs i h1) ha
    · rw [List.getElem?_set_ne hjk] at hj
      exact hm.sound P h0 hs j hj
  · rcases h with h | h | ⟨h2, h3⟩
    · left; rw [count_mark hk]; omega
    · have : M[k]? = some true := h i k hi hkl h1 ha
      rw [hk] at this
      cases this
    · left; rw [count_mark hk]; omega
theorem Top.done (hm : Mk L v M) (h : Top L v L.length M) : (∀ k, k < L.length → M[k]? = some true) ↔ Cn L v := by
  have hd : Done L v M := by
    rcases h with h | h
    · have := List.count_le_length (a := true) (l := M)
      have := hm.len
      omega
    · exact h
  exact ⟨fun h9 P h0 hs k hk => hm.sound P h0 hs k (h9 k hk), fun h9 => h9 _ hm.zero hd⟩

/-! ## Connected is what a surface's vertex is -/
theorem at_filter (T : List T3) (v : Int) : T.filter (haB · v) = (trisAt T v).map (triAt T) := by
  conv => lhs; rw [list_range T]
  rw [List.filter_map]
  unfold trisAt
  congr 1
  apply List.filter_congr
  intro i _
  show haB (triAt T i) v = hasB T v i
  unfold hasB
  rw [Bool.eq_iff_iff, haB_iff, decide_eq_true_eq]
theorem cn_pinch {T : List T3} {v : Int} (hne : ∃ t ∈ T, HasV t v) : Cn (T.filter (haB · v)) v ↔ PinchOk T v := by
  obtain ⟨t0, ht0⟩ := trisAt_ne hne
  have hnd : (trisAt T v).Nodup := List.nodup_range.sublist List.filter_sublist
  have hz : (trisAt T v)[0]? = some t0 := by rw [← List.head?_eq_getElem?]; exact ht0
  rw [at_filter]
  have hlen : ((trisAt T v).map (triAt T)).length = (trisAt T v).length := List.length_map _
  have hat : ∀ i t, (trisAt T v)[i]? = some t → triAt ((trisAt T v).map (triAt T)) i = triAt T t := fun i t h => by
    conv => lhs; unfold triAt
    rw [List.getD_eq_getElem?_getD, List.getElem?_map, h]
    rfl
  have hadj : ∀ i k, AdjT T v i k ↔ adB v (triAt T i) (triAt T k) = true := fun i k => by rw [adB_iff]; rfl
  constructor
  · intro h
    refine ⟨t0, ht0, fun P h0 hs k hk => ?_⟩
    obtain ⟨j, hj⟩ := List.mem_iff_getElem?.1 hk
    have hjl := (List.getElem?_eq_some_iff.1 hj).1
    have := h (fun i => ∀ t, (trisAt T v)[i]? = some t → P t) (fun t ht => by rw [hz] at ht; cases ht; exact h0) (fun i k hi hk hp ha t ht => by
      rw [hlen] at hi
      obtain ⟨s, hs9⟩ : ∃ s, (trisAt T v)[i]? = some s := ⟨_, List.getElem?_eq_getElem hi⟩
      rw [hat i s hs9, hat k t ht] at ha
      exact hs s t (List.mem_of_getElem? hs9) (List.mem_of_getElem? ht) (hp s hs9) ((hadj s t).2 ha)) j (by rw [hlen]; exact hjl)
    exact this k hj
  · rintro ⟨t1, ht1, hc⟩ P h0 hs k hk
    rw [ht0] at ht1
    cases ht1
    rw [hlen] at hk
    have key : ∀ t ∈ trisAt T v, ∀ i, (trisAt T v)[i]? = some t → P i := hc (fun t => ∀ i, (trisAt T v)[i]? = some t → P i) (fun i hi => by
      obtain ⟨h1, h2⟩ := List.getElem?_eq_some_iff.1 hi
      obtain ⟨h3, h4⟩ := List.getElem?_eq_some_iff.1 hz
      rw [(List.getElem_inj hnd).1 (h2.trans h4.symm)]
      exact h0) (fun s t hs9 ht hp ha i hi => by
      obtain ⟨j, hj⟩ := List.mem_iff_getElem?.1 hs9
      have hjl := (List.getElem?_eq_some_iff.1 hj).1
      have hil := (List.getElem?_eq_some_iff.1 hi).1
      refine hs j i (by rw [hlen]; exact hjl) (by rw [hlen]; exact hil) (hp j hj) ?_
      rw [hat j s hj, hat i t hi]
      exact (hadj s t).1 ha)
    exact key _ (List.getElem_mem hk) k (List.getElem?_eq_getElem hk)
end Go.Mesh

namespace Go.Mesh
theorem filter_step {T : List T3} {v : Int} {k : Nat} (h : k < T.length) : (T.take (k + 1)).filter (haB · v) = (T.take k).filter (haB · v) ++ (if haB (triAt T k) v then [triAt T k] else []) := by
  rw [List.take_succ_eq_append_getElem h, List.filter_append, triAt_get h]
  congr 1
  simp only [List.filter_cons, List.filter_nil]
theorem bvals_cell {M : List Bool} {i : Nat} {b : Bool} (h : M[i]? = some b) : (bvals M)[i]? = some (.bool b) := by unfold bvals; rw [List.getElem?_map, h]; rfl
end Go.Mesh
namespace Go.Proofs.Ytpbdcppaiafbgaa
open Go Go.RowKit Go.Words Go.Mesh

/-- An answer that is false just if something holds. -/
def SaysNo (e : Ending) (good : Prop) : Prop := ∃ b, e = .returned (.bool b) ∧ (b = false ↔ good)
/-- An answer that is true just if something holds. -/
def SaysYes (e : Ending) (good : Prop) : Prop := ∃ b, e = .returned (.bool b) ∧ (b = true ↔ good)
set_option maxRecDepth 40000 in
set_option maxHeartbeats 4000000 in
theorem pinched_calls (sv : Value) (N : Int) (T : List T3) (v : Int) (w : World) {B : Nat} (hB0 : B ≤ w.heap.size) (hT : Sl 3 RTri w B sv T) (hfew : T.length ≤ 200) :
    Calls Try.prog 44 #[.agg #[.int .i64 N, sv], .int .i64 v] w fun e w' => SaysNo e (T.filter (haB · v) = [] ∨ Cn (T.filter (haB · v)) v) ∧ Below w.heap.size w w' := by
  obtain ⟨A, cap, rfl, hcap⟩ := hT.form
  have hbox := Bk.new w 24 [.int .i64 N, .slice A T.length cap]
  have hb1 := (Below.refl w.heap.size w).alloc (Nat.le_refl _) (.cells #[.int .i64 N, .slice A T.length cap] 24)
  have hTA := hT.below keeps_tri (hb1.mono hB0)
  have hle : B ≤ (w.alloc (.cells #[.int .i64 N, .slice A T.length cap] 24)).heap.size := by rw [World.size_alloc]; omega
  have c1 := hbox.cell 1
  simp only [List.getElem?_cons_zero, List.getElem?_cons_succ] at c1
  have hz0 : w.heap.size < (w.alloc (.cells #[.int .i64 N, .slice A T.length cap] 24)).heap.size := by rw [World.size_alloc]; omega
  generalize hw0 : w.alloc (.cells #[.int .i64 N, .slice A T.length cap] 24) = w0 at *
  have HhT := Lib.hid hT; clear hT; have HhTA := Lib.hid hTA; clear hTA; have Hhbox := Lib.hid hbox; clear hbox
  go_enter Try.func44, Try.ntmps44
  go_wp2_with fail
  clear hw0
  go_loopw [5, 6] (fun l i wr => ∃ k : Nat, k ≤ T.length ∧ i = .int .i64 k ∧ wr.ownsRow w0.heap.size 43 3 l ((T.take k).filter (haB · v)).length (triVals ((T.take k).filter (haB · v))) ∧ Below w0.heap.size w0 wr) (fun _ i _ => T.length - (intOf i).toNat)
  case atStart => exact ⟨0, by omega, rfl, World.ownsRow_nil _ _ _ _, Below.refl _ _⟩
  case round =>
    obtain ⟨k, hk, rfl, hown, hbel⟩ := hrel
    obtain ⟨w1, hw1⟩ : ∃ w1, w1 = wr := ⟨_, rfl⟩
    subst hw1
    have c1r : w1.cell? ⟨w.heap.size, 1, none⟩ = some (.slice A T.length cap) := (hbel.cell (p := ⟨w.heap.size, 1, none⟩) hz0).trans c1
    have hsz := hbel.size
    have hgs : w.heap.size < w1.heap.size := by omega
    by_cases hlt : k < T.length
    · have hTr := HhTA.out.below keeps_tri (hbel.mono hle)
      obtain ⟨b, o, rfl, hb, a1, a2, a3⟩ := hTr.tri_at hlt
      rw [triAt_get hlt] at a1 a2 a3
      have hbw : b < w1.heap.size := by omega
      have hst := filter_step (T := T) (v := v) hlt
      have hll : ((T.take k).filter (haB · v)).length ≤ k := Nat.le_trans (List.length_filter_le _ _) (by rw [List.length_take]; omega)
      generalize triAt T k = x at *
      generalize (T.take k).filter (haB · v) = L9 at *
      obtain ⟨x1, x2, x3⟩ := x
      simp only [] at a1 a2 a3
      have hha := has9_calls (x1, x2, x3) v
      have Hhown := Lib.hid hown; clear hown; have HhTr := Lib.hid hTr; clear hTr; have Hhst := Lib.hid hst; clear hst; have Hhha := Lib.hid hha; clear hha
      go_wp2_with fail
      refine (Hhha.out _).mono ?_
      rintro e w2 ⟨rfl, hb2⟩
      have c1w : w2.cell? ⟨w.heap.size, 1, none⟩ = some (.slice (some ⟨b, o, none⟩) T.length cap) := (hb2.cell (p := ⟨w.heap.size, 1, none⟩) hgs).trans c1r
      have d1 := (hb2.cell (p := ⟨b, o + k * 3, none⟩) hbw).trans a1
      have d2 := (hb2.cell (p := ⟨b, o + k * 3 + 1, none⟩) hbw).trans a2
      have d3 := (hb2.cell (p := ⟨b, o + k * 3 + 2, none⟩) hbw).trans a3
      have hz2 := hb2.size
      have hown2 := own_below Hhown.out hb2 (Nat.le_refl _)
      have hst := Hhst.out
      have hbel2 := hbel.trans (hb2.mono hsz)
      cases hq : haB (x1, x2, x3) v with
      | false =>
        rw [hq, if_neg (by simp), List.append_nil] at hst
        rw [← hst] at hown2
        have Hhown2 := Lib.hid hown2; clear hown2; have Hhq := Lib.hid hq; clear hq; have Hhst := Lib.hid hst; clear hst
        go_wp2_with fail
        exact ⟨⟨k + 1, by omega, by simp, Hhown2.out, hbel2⟩, by simp [intOf]; omega⟩
      | true =>
        rw [hq, if_pos rfl] at hst
        have hgo : ∀ (w5 : World) (v5 : Value), w5.ownsRow w0.heap.size 43 3 v5 (L9.length + 1) (triVals L9 ++ [.int .i64 x1, .int .i64 x2, .int .i64 x3]) → w5.ownsRow w0.heap.size 43 3 v5 ((T.take (k + 1)).filter (haB · v)).length (triVals ((T.take (k + 1)).filter (haB · v))) := fun w5 v5 h5 => by
          rw [hst, triVals_snoc, List.length_append]
          exact h5
        have Hhown2 := Lib.hid hown2; clear hown2; have Hhq := Lib.hid hq; clear hq; have Hhst := Lib.hid hst; clear hst; have Hhgo := Lib.hid hgo; clear hgo
        go_wp2_with (at_builtin; refine append_block _ rfl (.tmp 27) (.tmp 33) 22 rfl w0.heap.size infoTri Try.underlying22 rfl (by decide) _ L9.length (triVals L9) rfl (Hhown2.out.alloc _) w2.heap.size [.int .i64 x1, .int .i64 x2, .int .i64 x3] rfl (Bk.new _ _ _) rfl (by simp [Value.oneCell']) (by omega) (by omega) (by simp; omega) ?_; intro v1 w5 hown5 hb5 _ _; have Hhown5 := Lib.hid hown5; clear hown5)
        exact ⟨⟨k + 1, by omega, by simp, Hhgo.out _ _ Hhown5.out, (hbel2.alloc (by omega) _).trans hb5⟩, by simp [intOf]; omega⟩
    · obtain rfl : k = T.length := by omega
      rw [List.take_length] at hown
      have hll : (T.filter (haB · v)).length ≤ T.length := List.length_filter_le _ _
      generalize hL : T.filter (haB · v) = L at *
      have HhL := Lib.hid hL; clear hL
      have hfin := hb1.trans (hbel.mono hb1.size)
      by_cases hn : L.length = 0
      · have hln : L = [] := List.length_eq_zero_iff.1 hn
        have hnz : ((L.length : Int) == 0) = true := by rw [hn]; rfl
        obtain ⟨A2, cap2, rfl, hc2⟩ := own_form hown
        clear hn
        have Hhown := Lib.hid hown; clear hown
        go_wp2_with fail
        go_ret
        exact ⟨⟨false, rfl, ⟨fun _ => .inl (HhL.out.trans hln), fun _ => rfl⟩⟩, hfin⟩
      · obtain ⟨A2, cap2, rfl, hc2⟩ := own_form hown
        obtain ⟨gL, rfl⟩ := own_addr hown (by omega)
        have hgL := (hown.lt gL rfl).2
        have hsl := sl_own_tris hown
        have hLc : ∀ wz, Below w1.heap.size w1 wz → ∀ i, i < L.length → ∀ j, j < 3 → wz.cell? ⟨gL, i * 3 + j, none⟩ = some (.int .i64 (Mesh.vt L (3 * i + j))) := fun wz hz i hi j hj => by
          obtain ⟨b, o, h1, h2, h3⟩ := tri_cells (hsl.below keeps_tri hz) hi
          injection h1 with h1
          injection h1 with h1 h4
          subst h1; subst h4
          have := h3 j hj
          rwa [Nat.zero_add] at this
        have hm1 := run_make_rep (P := Try.prog) 82 Try.underlying82 info_bool rfl L.length (by omega) (by omega)
        have hn0 : ((L.length : Int) == 0) = false := by rw [beq_eq_false_iff_ne]; omega
        have hpos : 0 < (L.length : Int) := by omega
        have hmk := Mk.start (L := L) (v := v) (by omega)
        have htop := Top.start (L := L) (v := v) (by omega)
        have hrep : bvals (List.replicate L.length false) = List.replicate L.length (.bool false) := by unfold bvals; rw [List.map_replicate]
        have harr : (Array.replicate L.length (Value.bool false)).setIfInBounds 0 (.bool true) = (bvals ((List.replicate L.length false).set 0 true)).toArray := by
          rw [← bvals_set, hrep, ← List.toArray_replicate, List.setIfInBounds_toArray]
        have hbk := Bk.new w1 4 (bvals ((List.replicate L.length false).set 0 true))
        rw [← harr] at hbk
        have hbm := (Below.refl w1.heap.size w1).alloc (Nat.le_refl _) (.cells ((Array.replicate L.length (Value.bool false)).setIfInBounds 0 (.bool true)) 4)
        have hr0 : (Array.replicate L.length (Value.bool false))[0]? = some (.bool false) := by rw [Array.getElem?_replicate, if_pos (by omega)]
        clear harr hrep
        have Hhown := Lib.hid hown; clear hown; have Hhsl := Lib.hid hsl; clear hsl; have HhLc := Lib.hid hLc; clear hLc; have Hhmk := Lib.hid hmk; clear hmk; have Hhtop := Lib.hid htop; clear htop; have Hhbk := Lib.hid hbk; clear hbk
        go_wp2_with fail
        clear hm1 hr0
        generalize hwm : w1.alloc (.cells ((Array.replicate L.length (Value.bool false)).setIfInBounds 0 (.bool true)) 4) = wm at *
        clear hwm
        have hbkl := Hhbk.out.lt
        go_loopw [45] (fun rv wr => ∃ (r : Nat) (M : List Bool), r ≤ L.length ∧ rv = .int .i64 r ∧ Mk L v M ∧ Top L v r M ∧ Bk wr w1.heap.size 4 (bvals M) ∧ Below w1.heap.size w1 wr) (fun rv _ => L.length - (intOf rv).toNat)
        case atStart => exact ⟨0, _, by omega, rfl, Hhmk.out, Hhtop.out, Hhbk.out, hbm⟩
        case round =>
          obtain ⟨r, M, hr, rfl, hmk9, htop9, hbkr, hbr⟩ := hrel
          by_cases hrl : r < L.length
          · have hmid9 := htop9.mid
            have Hhmk9 := Lib.hid hmk9; clear hmk9; have Hhtop9 := Lib.hid htop9; clear htop9; have Hhbkr := Lib.hid hbkr; clear hbkr; have Hhmid9 := Lib.hid hmid9; clear hmid9
            go_wp2_with fail
            go_loopw [8] (fun iv wr => ∃ (i : Nat) (M : List Bool), i ≤ L.length ∧ iv = .int .i64 i ∧ Mk L v M ∧ Mid L v r i 0 M ∧ Bk wr w1.heap.size 4 (bvals M) ∧ Below w1.heap.size w1 wr) (fun iv _ => L.length - (intOf iv).toNat)
            case atStart => exact ⟨0, M, by omega, rfl, Hhmk9.out, Hhmid9.out, Hhbkr.out, hbr⟩
            case round =>
              obtain ⟨i, M2, hi, rfl, hmk2, hmid2, hbk2, hbr2⟩ := hrel
              by_cases hil : i < L.length
              · have Hhmk2 := Lib.hid hmk2; clear hmk2; have Hhmid2 := Lib.hid hmid2; clear hmid2; have Hhbk2 := Lib.hid hbk2; clear hbk2
                go_wp2_with fail
                go_loopw [9] (fun kv wr => ∃ (k : Nat) (M : List Bool), k ≤ L.length ∧ kv = .int .i64 k ∧ Mk L v M ∧ Mid L v r i k M ∧ Bk wr w1.heap.size 4 (bvals M) ∧ Below w1.heap.size w1 wr) (fun kv _ => L.length - (intOf kv).toNat)
                case atStart => exact ⟨0, M2, by omega, rfl, Hhmk2.out, Hhmid2.out, Hhbk2.out, hbr2⟩
                case round =>
                  obtain ⟨k, M3, hk3, rfl, hmk3, hmid3, hbk3, hbr3⟩ := hrel
                  by_cases hkl : k < L.length
                  · obtain ⟨bi, hbi⟩ : ∃ b, M3[i]? = some b := ⟨_, List.getElem?_eq_getElem (by rw [hmk3.len]; exact hil)⟩
                    obtain ⟨bk, hbk9⟩ : ∃ b, M3[k]? = some b := ⟨_, List.getElem?_eq_getElem (by rw [hmk3.len]; exact hkl)⟩
                    have hci := hbk3.cell i
                    rw [bvals_cell hbi] at hci
                    have hck := hbk3.cell k
                    rw [bvals_cell hbk9] at hck
                    cases bi with
                    | false =>
                      have hm9 := hmid3.pass fun h => by rw [hbi] at h; cases h
                      have Hhmk3 := Lib.hid hmk3; clear hmk3; have Hhmid3 := Lib.hid hmid3; clear hmid3; have Hhbk3 := Lib.hid hbk3; clear hbk3; have Hhbi := Lib.hid hbi; clear hbi; have Hhbk9 := Lib.hid hbk9; clear hbk9; have Hhm9 := Lib.hid hm9; clear hm9
                      go_wp2_with fail
                      exact ⟨⟨k + 1, M3, by omega, by simp, Hhmk3.out, Hhm9.out, Hhbk3.out, hbr3⟩, by simp [intOf]; omega⟩
                    | true =>
                      cases bk with
                      | true =>
                        have hm9 := hmid3.pass fun _ _ => hbk9
                        have Hhmk3 := Lib.hid hmk3; clear hmk3; have Hhmid3 := Lib.hid hmid3; clear hmid3; have Hhbk3 := Lib.hid hbk3; clear hbk3; have Hhbi := Lib.hid hbi; clear hbi; have Hhbk9 := Lib.hid hbk9; clear hbk9; have Hhm9 := Lib.hid hm9; clear hm9
                        go_wp2_with fail
                        exact ⟨⟨k + 1, M3, by omega, by simp, Hhmk3.out, Hhm9.out, Hhbk3.out, hbr3⟩, by simp [intOf]; omega⟩
                      | false =>
                        have hk0 := HhLc.out
                        obtain ⟨y, hy⟩ : ∃ y, triAt L k = y := ⟨_, rfl⟩
                        obtain ⟨x, hx⟩ : ∃ x, triAt L i = x := ⟨_, rfl⟩
                        have hyc : ∀ wz, Below w1.heap.size w1 wz → wz.cell? ⟨gL, k * 3, none⟩ = some (.int .i64 y.1) ∧ wz.cell? ⟨gL, k * 3 + 1, none⟩ = some (.int .i64 y.2.1) ∧ wz.cell? ⟨gL, k * 3 + 2, none⟩ = some (.int .i64 y.2.2) := fun wz hz => by
                          have g0 := hk0 wz hz k hkl 0 (by omega)
                          have g1 := hk0 wz hz k hkl 1 (by omega)
                          have g2 := hk0 wz hz k hkl 2 (by omega)
                          rw [corner_at L k 0 (by omega), hy] at g0
                          rw [corner_at L k 1 (by omega), hy] at g1
                          rw [corner_at L k 2 (by omega), hy] at g2
                          exact ⟨g0, g1, g2⟩
                        have hxc : ∀ wz, Below w1.heap.size w1 wz → ∀ m, m < 3 → wz.cell? ⟨gL, i * 3 + m, none⟩ = some (.int .i64 (vx x m)) := fun wz hz m hm => by
                          have g0 := hk0 wz hz i hil m hm
                          rwa [corner_at L i m hm, hx] at g0
                        have hset : ∀ bd : Bool, (if bd then M3.set k true else M3).set k true = M3.set k true := fun bd => by
                          cases bd with
                          | false => rfl
                          | true => simp
                        have hha := fun u => has9_calls y u
                        have hms : adB v x y = true → Mk L v (M3.set k true) ∧ Mid L v r i (k + 1) (M3.set k true) := fun ha => hmid3.mark hmk3 hil hkl hbi hbk9 (by rw [hx, hy]; exact ha)
                        have hmp : adB v x y = false → Mid L v r i (k + 1) M3 := fun ha => hmid3.pass fun _ h => by rw [hx, hy, ha] at h; cases h
                        have hlen3 := hmk3.len
                        obtain ⟨y1, y2, y3⟩ := y
                        simp only [triV] at hyc hha
                        clear hk0
                        have Hhmk3 := Lib.hid hmk3; clear hmk3; have Hhmid3 := Lib.hid hmid3; clear hmid3; have Hhbk3 := Lib.hid hbk3; clear hbk3; have Hhbi := Lib.hid hbi; clear hbi; have Hhbk9 := Lib.hid hbk9; clear hbk9; have Hhx := Lib.hid hx; clear hx; have Hhy := Lib.hid hy; clear hy; have Hhyc := Lib.hid hyc; clear hyc; have Hhxc := Lib.hid hxc; clear hxc; have Hhset := Lib.hid hset; clear hset; have Hhha := Lib.hid hha; clear hha; have Hhms := Lib.hid hms; clear hms; have Hhmp := Lib.hid hmp; clear hmp; have Hhlen3 := Lib.hid hlen3; clear hlen3
                        go_wp2_with fail
                        go_loopw [10] (fun jv wz => ∃ m : Nat, m ≤ 3 ∧ jv = .int .i64 m ∧ Bk wz w1.heap.size 4 (bvals (if adP v x (y1, y2, y3) m then M3.set k true else M3)) ∧ Below w1.heap.size w1 wz) (fun jv _ => 3 - (intOf jv).toNat)
                        case atStart => exact ⟨0, by omega, rfl, Hhbk3.out, hbr3⟩
                        case round =>
                          clear hci hck
                          obtain ⟨m, hm, rfl, hbk4, hbr4⟩ := hrel
                          have hz4 := hbr4.size
                          have hbl4 := hbk4.lt
                          by_cases hm3 : m < 3
                          · have hstep : adP v x (y1, y2, y3) (m + 1) = (adP v x (y1, y2, y3) m || (vx x m != v && haB (y1, y2, y3) (vx x m))) := rfl
                            have hcx := Hhxc.out wr hbr4 m hm3
                            generalize vx x m = u at *
                            generalize hbd' : adP v x (y1, y2, y3) (m + 1) = bd' at *
                            generalize adP v x (y1, y2, y3) m = bd at *
                            by_cases huv : u = v
                            · have hb9 : bd' = bd := by rw [hstep, huv]; simp
                              rw [← hb9] at hbk4
                              have Hhbk4 := Lib.hid hbk4; clear hbk4; have Hhstep := Lib.hid hstep; clear hstep; have Hhb9 := Lib.hid hb9; clear hb9
                              go_wp2_with fail
                              exact ⟨⟨m + 1, by omega, by simp, by rw [hbd']; exact Hhbk4.out, hbr4⟩, by simp [intOf]; omega⟩
                            · have huv' : (u != v) = true := bne_iff_ne.2 huv
                              rw [huv', Bool.true_and] at hstep
                              clear huv'
                              obtain ⟨e1, e2, e3⟩ := Hhyc.out wr hbr4
                              have hha := Hhha.out u wr
                              generalize haB (y1, y2, y3) u = hq at *
                              have Hhbk4 := Lib.hid hbk4; clear hbk4; have Hhstep := Lib.hid hstep; clear hstep; have Hhha := Lib.hid hha; clear hha
                              go_wp2_with fail
                              refine Hhha.out.mono ?_
                              rintro e w5 ⟨rfl, hb5⟩
                              have hbk5 := Hhbk4.out.below hb5 hbl4
                              have hbr5 := hbr4.trans (hb5.mono hz4)
                              have hstep := Hhstep.out
                              cases hq with
                              | false =>
                                rw [Bool.or_false] at hstep
                                rw [← hstep] at hbk5
                                have Hhbk5 := Lib.hid hbk5; clear hbk5; have Hhstep := Lib.hid hstep; clear hstep
                                go_wp2_with fail
                                exact ⟨⟨m + 1, by omega, by simp, by rw [hbd']; exact Hhbk5.out, hbr5⟩, by simp [intOf]; omega⟩
                              | true =>
                                rw [Bool.or_true] at hstep
                                have hbl5 := hbk5.lt
                                have hfro := hbk5.frozen k
                                obtain ⟨bo, hbo⟩ : ∃ b, (if bd then M3.set k true else M3)[k]? = some b := ⟨_, List.getElem?_eq_getElem (by
                                  have := Hhlen3.out
                                  cases bd <;> simp <;> omega)⟩
                                have hold := hbk5.cell k
                                rw [bvals_cell hbo] at hold
                                have hbk6 := hbk5.set k (.bool true)
                                rw [bvals_set, Hhset.out] at hbk6
                                have hbr6 := hbr5.setCell (p := ⟨w1.heap.size, k, none⟩) (Nat.le_refl _) (.bool true)
                                subst hstep
                                have Hhbk5 := Lib.hid hbk5; clear hbk5; have Hhbk6 := Lib.hid hbk6; clear hbk6; have Hhbo := Lib.hid hbo; clear hbo
                                go_wp2_with fail
                                exact ⟨⟨m + 1, by omega, by simp, by rw [hbd', if_pos rfl]; exact Hhbk6.out, hbr6⟩, by simp [intOf]; omega⟩
                          · obtain rfl : m = 3 := by omega
                            change Bk wr w1.heap.size 4 (bvals (if adB v x (y1, y2, y3) then M3.set k true else M3)) at hbk4
                            cases hab : adB v x (y1, y2, y3) with
                            | true =>
                              obtain ⟨h1, h2⟩ := Hhms.out hab
                              rw [hab, if_pos rfl] at hbk4
                              have Hhbk4 := Lib.hid hbk4; clear hbk4; have Hhab := Lib.hid hab; clear hab; have Hh1 := Lib.hid h1; clear h1; have Hh2 := Lib.hid h2; clear h2
                              go_wp2_with fail
                              exact ⟨⟨k + 1, _, by omega, by simp, Hh1.out, Hh2.out, Hhbk4.out, hbr4⟩, by simp [intOf]; omega⟩
                            | false =>
                              have h2 := Hhmp.out hab
                              rw [hab, if_neg (by simp)] at hbk4
                              have Hhbk4 := Lib.hid hbk4; clear hbk4; have Hhab := Lib.hid hab; clear hab; have Hh2 := Lib.hid h2; clear h2
                              go_wp2_with fail
                              exact ⟨⟨k + 1, _, by omega, by simp, Hhmk3.out, Hh2.out, Hhbk4.out, hbr4⟩, by simp [intOf]; omega⟩
                  · obtain rfl : k = L.length := by omega
                    have hm9 := hmid3.row
                    have Hhmk3 := Lib.hid hmk3; clear hmk3; have Hhmid3 := Lib.hid hmid3; clear hmid3; have Hhbk3 := Lib.hid hbk3; clear hbk3; have Hhm9 := Lib.hid hm9; clear hm9
                    go_wp2_with fail
                    exact ⟨⟨i + 1, M3, by omega, by simp, Hhmk3.out, Hhm9.out, Hhbk3.out, hbr3⟩, by simp [intOf]; omega⟩
              · obtain rfl : i = L.length := by omega
                have hm9 := hmid2.top
                have Hhmk2 := Lib.hid hmk2; clear hmk2; have Hhmid2 := Lib.hid hmid2; clear hmid2; have Hhbk2 := Lib.hid hbk2; clear hbk2; have Hhm9 := Lib.hid hm9; clear hm9
                go_wp2_with fail
                exact ⟨⟨r + 1, M2, by omega, by simp, Hhmk2.out, Hhm9.out, Hhbk2.out, hbr2⟩, by simp [intOf]; omega⟩
          · obtain rfl : r = L.length := by omega
            have hdone := htop9.done hmk9
            have Hhmk9 := Lib.hid hmk9; clear hmk9; have Hhtop9 := Lib.hid htop9; clear htop9; have Hhbkr := Lib.hid hbkr; clear hbkr; have Hhdone := Lib.hid hdone; clear hdone
            go_wp2_with fail
            go_loopw [12] (fun iv wz => ∃ i : Nat, i ≤ L.length ∧ iv = .int .i64 i ∧ (∀ k, k < i → M[k]? = some true) ∧ wz = wr) (fun iv _ => L.length - (intOf iv).toNat)
            case atStart => exact ⟨0, by omega, rfl, fun k hk => by omega, rfl⟩
            case round =>
              obtain ⟨i, hi, rfl, hall, hww⟩ := hrel
              subst hww
              by_cases hil : i < L.length
              · obtain ⟨bi, hbi⟩ : ∃ b, M[i]? = some b := ⟨_, List.getElem?_eq_getElem (by rw [Hhmk9.out.len]; exact hil)⟩
                have hci := Hhbkr.out.cell i
                rw [bvals_cell hbi] at hci
                cases bi with
                | true =>
                  have hall2 : ∀ k, k < i + 1 → M[k]? = some true := fun k hk => by
                    by_cases hki : k = i
                    · rw [hki]; exact hbi
                    · exact hall k (by omega)
                  have Hhall := Lib.hid hall; clear hall; have Hhbi := Lib.hid hbi; clear hbi; have Hhall2 := Lib.hid hall2; clear hall2
                  go_wp2_with fail
                  exact ⟨⟨i + 1, by omega, by simp, Hhall2.out, trivial⟩, by simp [intOf]; omega⟩
                | false =>
                  have hres : true = false ↔ L = [] ∨ Cn L v := by
                    constructor
                    · intro h; cases h
                    · rintro (h | h)
                      · rw [h] at hil
                        exact absurd hil (Nat.not_lt_zero _)
                      · have := Hhdone.out.2 h i hil
                        rw [hbi] at this
                        cases this
                  have hfr := below_call hfin hbr hfin.size
                  have Hhall := Lib.hid hall; clear hall; have Hhbi := Lib.hid hbi; clear hbi; have Hhres := Lib.hid hres; clear hres
                  go_wp2_with fail
                  go_ret
                  exact ⟨⟨true, rfl, by rw [HhL.out]; exact Hhres.out⟩, hfr⟩
              · obtain rfl : i = L.length := by omega
                have hres := Hhdone.out.1 hall
                have hfr := below_call hfin hbr hfin.size
                have Hhall := Lib.hid hall; clear hall; have Hhres := Lib.hid hres; clear hres
                go_wp2_with fail
                go_ret
                exact ⟨⟨false, rfl, by rw [HhL.out]; exact ⟨fun _ => .inr Hhres.out, fun _ => rfl⟩⟩, hfr⟩
end Go.Proofs.Ytpbdcppaiafbgaa

namespace Go.Mesh
theorem edB_iff {u : T3} {x y : Int} : edB u x y = true ↔ ∃ j, j < 3 ∧ vx u j = x ∧ vx u ((j + 1) % 3) = y := by
  unfold edB
  simp only [Bool.or_eq_true, Bool.and_eq_true, beq_iff_eq]
  constructor
  · rintro ((⟨h1, h2⟩ | ⟨h1, h2⟩) | ⟨h1, h2⟩)
    · exact ⟨0, by omega, h1, h2⟩
    · exact ⟨1, by omega, h1, h2⟩
    · exact ⟨2, by omega, h1, h2⟩
  · rintro ⟨j, hj, h1, h2⟩
    match j, hj with
    | 0, _ => exact .inl (.inl ⟨h1, h2⟩)
    | 1, _ => exact .inl (.inr ⟨h1, h2⟩)
    | 2, _ => exact .inr ⟨h1, h2⟩
theorem twB_iff {t u : T3} : twB t u = true ↔ ∃ k j, k < 3 ∧ j < 3 ∧ vx u j = vx t k ∧ vx u ((j + 1) % 3) = vx t ((k + 1) % 3) := by
  unfold twB
  simp only [Bool.or_eq_true, edB_iff]
  constructor
  · rintro ((⟨j, h1, h2⟩ | ⟨j, h1, h2⟩) | ⟨j, h1, h2⟩)
    · exact ⟨0, j, by omega, h1, h2⟩
    · exact ⟨1, j, by omega, h1, h2⟩
    · exact ⟨2, j, by omega, h1, h2⟩
  · rintro ⟨k, j, hk, hj, h⟩
    match k, hk with
    | 0, _ => exact .inl (.inl ⟨j, hj, h⟩)
    | 1, _ => exact .inl (.inr ⟨j, hj, h⟩)
    | 2, _ => exact .inr ⟨j, hj, h⟩
theorem vsB_iff {t u : T3} : vsB t u = true ↔ ∀ k, k < 3 → ∃ m, m < 3 ∧ vx t k = vx u m := by
  unfold vsB
  simp only [Bool.and_eq_true, haB_iff, vx_has]
  constructor
  · rintro ⟨⟨⟨a, h1, h2⟩, ⟨b, h3, h4⟩⟩, ⟨c, h5, h6⟩⟩ k hk
    match k, hk with
    | 0, _ => exact ⟨a, h1, h2.symm⟩
    | 1, _ => exact ⟨b, h3, h4.symm⟩
    | 2, _ => exact ⟨c, h5, h6.symm⟩
  · intro h
    obtain ⟨a, h1, h2⟩ := h 0 (by omega)
    obtain ⟨b, h3, h4⟩ := h 1 (by omega)
    obtain ⟨c, h5, h6⟩ := h 2 (by omega)
    exact ⟨⟨⟨a, h1, h2.symm⟩, ⟨b, h3, h4.symm⟩⟩, ⟨c, h5, h6.symm⟩⟩
def G2 (T : List T3) : Prop := ∀ i, i < T.length → Three (triAt T i)
def G5 (N : Int) (T : List T3) : Prop := ∀ u : Nat, (u : Int) < N → ∃ i, i < T.length ∧ haB (triAt T i) u = true
def G6 (N : Int) (T : List T3) : Prop := ∀ u : Nat, (u : Int) < N → T.filter (haB · (u : Int)) = [] ∨ Cn (T.filter (haB · (u : Int))) u
theorem g2_all {T : List T3} : G2 T ↔ ∀ t ∈ T, Three t := by
  constructor
  · intro h t ht
    obtain ⟨i, hi, rfl⟩ := mem_triAt ht
    exact h i hi
  · exact fun h i hi => h _ (triAt_mem hi)
theorem edge_start (T : List T3) (c : Nat) : eg T (pv c) = (vt T c, vt T (nx c)) := by unfold eg; rw [nx_pv, pv_pv]
theorem g3_iff {T : List T3} (h2 : G2 T) : NoPair twB T T.length ↔ ∀ c d, c < 3 * T.length → d < 3 * T.length → eg T c = eg T d → c = d := by
  have h3 := g2_all.1 h2
  constructor
  · intro h
    have key : ∀ c d, c < 3 * T.length → d < 3 * T.length → c / 3 < d / 3 → eg T c = eg T d → False := fun c d hc hd hcd he => by
      have := h (d / 3) (c / 3) (by omega) hcd
      have ht : twB (triAt T (c / 3)) (triAt T (d / 3)) = true := twB_iff.2 ⟨(c + 1) % 3, (d + 1) % 3, by omega, by omega, by
        have := congrArg Prod.fst he
        simp only [eg] at this
        rw [vt_nx, vt_nx] at this
        exact this.symm, by
        have := congrArg Prod.snd he
        simp only [eg] at this
        rw [vt_pv, vt_pv] at this
        rw [show ((d + 1) % 3 + 1) % 3 = (d + 2) % 3 by omega, show ((c + 1) % 3 + 1) % 3 = (c + 2) % 3 by omega]
        exact this.symm⟩
      rw [this] at ht
      cases ht
    intro c d hc hd he
    by_cases h1 : c / 3 < d / 3
    · exact (key c d hc hd h1 he).elim
    · by_cases h4 : d / 3 < c / 3
      · exact (key d c hd hc h4 he.symm).elim
      · have hv : vt T (nx c) = vt T (nx d) := congrArg Prod.fst he
        exact nx_inj (corner_one h3 (nx_lt hc) (by rw [nx_div, nx_div]; omega) hv)
  · intro h b a hb hab
    cases hq : twB (triAt T a) (triAt T b) with
    | false => rfl
    | true =>
      obtain ⟨k, j, hk, hj, e1, e2⟩ := twB_iff.1 hq
      have := h (pv (3 * a + k)) (pv (3 * b + j)) (pv_lt (by omega)) (pv_lt (by omega)) (by
        rw [edge_start, edge_start, corner_at T a k hk, corner_at T b j hj, vt_nx, vt_nx, show (3 * a + k) / 3 = a by omega, show (3 * b + j) / 3 = b by omega, show (3 * a + k + 1) % 3 = (k + 1) % 3 by omega, show (3 * b + j + 1) % 3 = (j + 1) % 3 by omega, e1, e2])
      have := pv_inj this
      omega
theorem g4_iff {T : List T3} : NoPair vsB T T.length ↔ ∀ i j, i < j → j < T.length → ¬ ∀ k, k < 3 → ∃ m, m < 3 ∧ vt T (3 * i + k) = vt T (3 * j + m) := by
  have e : ∀ i j, vsB (triAt T i) (triAt T j) = true ↔ ∀ k, k < 3 → ∃ m, m < 3 ∧ vt T (3 * i + k) = vt T (3 * j + m) := fun i j => by
    rw [vsB_iff]
    constructor
    · intro h k hk
      obtain ⟨m, hm, h1⟩ := h k hk
      exact ⟨m, hm, by rw [corner_at T i k hk, corner_at T j m hm]; exact h1⟩
    · intro h k hk
      obtain ⟨m, hm, h1⟩ := h k hk
      rw [corner_at T i k hk, corner_at T j m hm] at h1
      exact ⟨m, hm, h1⟩
  constructor
  · intro h i j hij hj h9
    have := h j i hj hij
    rw [(e i j).2 h9] at this
    cases this
  · intro h b a hb hab
    cases hq : vsB (triAt T a) (triAt T b) with
    | false => rfl
    | true => exact absurd ((e a b).1 hq) (h a b hab hb)
theorem has_mem {T : List T3} {v : Int} : (∃ i, i < T.length ∧ haB (triAt T i) v = true) ↔ ∃ t ∈ T, HasV t v := by
  constructor
  · rintro ⟨i, hi, h⟩
    exact ⟨_, triAt_mem hi, haB_iff.1 h⟩
  · rintro ⟨t, ht, h⟩
    obtain ⟨i, hi, rfl⟩ := mem_triAt ht
    exact ⟨i, hi, haB_iff.2 h⟩
theorem surf_iff {N : Int} {T : List T3} (hlen : T.length ≤ 8192) : Surf N T ↔ Idx N T ∧ G2 T ∧ NoPair twB T T.length ∧ NoPair vsB T T.length ∧ G5 N T ∧ G6 N T := by
  constructor
  · intro h
    have h2 : G2 T := g2_all.2 ((three_all T).2 h.loop)
    have h5 : G5 N T := fun u hu => by
      obtain ⟨c, hc, hv⟩ := h.used u (by omega) hu
      exact ⟨c / 3, by omega, haB_iff.2 ((hasV_at T c u).2 (.inl hv.symm))⟩
    refine ⟨⟨h.n0, h.nmax, h.rng⟩, h2, (g3_iff h2).2 h.once, g4_iff.2 h.mirror, h5, fun u hu => ?_⟩
    have hm := has_mem.1 (h5 u hu)
    exact .inr ((cn_pinch hm).2 (pinch_of (g2_all.1 h2) hm (h.fan u (by omega) hu)))
  · rintro ⟨⟨a1, a2, a3⟩, h2, h3, h4, h5, h6⟩
    exact {
      n0 := a1, nmax := a2, tmax := hlen, rng := a3
      loop := (three_all T).1 (g2_all.1 h2)
      once := (g3_iff h2).1 h3
      mirror := g4_iff.1 h4
      used := fun v h0 hv => by
        obtain ⟨t, ht, hu⟩ := has_mem.1 (h5 v.toNat (by omega))
        rw [Int.toNat_of_nonneg h0] at hu
        obtain ⟨i, hi, rfl⟩ := mem_triAt ht
        obtain ⟨c, hc, _, hvc⟩ := hasV_corner hi hu
        exact ⟨c, hc, hvc⟩
      fan := fun v h0 hv => by
        have hm := has_mem.1 (h5 v.toNat (by omega))
        have h9 := h6 v.toNat (by omega)
        rw [Int.toNat_of_nonneg h0] at hm h9
        rcases h9 with h9 | h9
        · obtain ⟨t, ht, hu⟩ := hm
          have : t ∈ T.filter (haB · v) := List.mem_filter.2 ⟨ht, haB_iff.2 hu⟩
          rw [h9] at this
          cases this
        · exact fan_of (g2_all.1 h2) ((cn_pinch hm).1 h9) }
end Go.Mesh

namespace Go.Proofs.Ytpbdcppaiafbgaa
open Go Go.RowKit Go.Words Go.Mesh

set_option maxRecDepth 40000 in
set_option maxHeartbeats 4000000 in
theorem all9_calls (sv : Value) (N : Int) (T : List T3) (w : World) {B : Nat} (hB0 : B ≤ w.heap.size) (hT : Sl 3 RTri w B sv T) (hfew : T.length ≤ 200) :
    Calls Try.prog 27 #[.agg #[.int .i64 N, sv]] w fun e w' => (∃ v', e = .returned v' ∧ Wz w' w.heap.size v' (Surf N T)) ∧ Below w.heap.size w w' := by
  obtain ⟨A, cap, rfl, hcap⟩ := hT.form
  have hsi := surf_iff (N := N) (T := T) (by omega)
  have hbox := Bk.new w 24 [.int .i64 N, .slice A T.length cap]
  have hb1 := (Below.refl w.heap.size w).alloc (Nat.le_refl _) (.cells #[.int .i64 N, .slice A T.length cap] 24)
  have hTA := hT.below keeps_tri (hb1.mono hB0)
  have hle : B ≤ (w.alloc (.cells #[.int .i64 N, .slice A T.length cap] 24)).heap.size := by rw [World.size_alloc]; omega
  have c0 := hbox.cell 0
  have c1 := hbox.cell 1
  simp only [List.getElem?_cons_zero, List.getElem?_cons_succ] at c0 c1
  have hz0 : w.heap.size < (w.alloc (.cells #[.int .i64 N, .slice A T.length cap] 24)).heap.size := by rw [World.size_alloc]; omega
  generalize hw0 : w.alloc (.cells #[.int .i64 N, .slice A T.length cap] 24) = w0 at *
  have hix := index9_calls (.slice A T.length cap) N T w0 hle hTA (by omega)
  have hpr := fun kind p hk wz (hz : Sl 3 RTri wz B (.slice A T.length cap) T) (hz2 : B ≤ wz.heap.size) => pairs9_calls (.slice A T.length cap) N T kind p hk wz hz2 hz hfew
  have hpi := fun v wz (hz : Sl 3 RTri wz B (.slice A T.length cap) T) (hz2 : B ≤ wz.heap.size) => pinched_calls (.slice A T.length cap) N T v wz hz2 hz hfew
  have HhT := Lib.hid hT; clear hT; have HhTA := Lib.hid hTA; clear hTA; have Hhbox := Lib.hid hbox; clear hbox; have Hhsi := Lib.hid hsi; clear hsi; have Hhix := Lib.hid hix; clear hix; have Hhpr := Lib.hid hpr; clear hpr; have Hhpi := Lib.hid hpi; clear hpi
  go_enter Try.func27, Try.ntmps27
  go_wp2_with fail
  refine Hhix.out.mono ?_
  clear hw0
  rintro e w1 ⟨⟨v1, rfl, n, xs, hown, hg, hnb⟩, hbel⟩
  have hz1 := hbel.size
  by_cases hn : 0 < n
  · have hret : Wz w1 w.heap.size _ (Surf (N) T) := ⟨n, xs, own_base hown (by omega), ⟨fun h9 => absurd h9 (by omega), fun h9 => absurd (hg.2 ((Hhsi.out.1 h9).1)) (by omega)⟩, by omega⟩
    have hfin := hb1.trans (hbel.mono hb1.size)
    obtain ⟨A7, cap7, rfl, hcap7⟩ := own_form hown
    have Hhown := Lib.hid hown; clear hown; have Hhret := Lib.hid hret; clear hret; have Hhg := Lib.hid hg; clear hg
    go_wp2_with fail
    go_ret
    exact ⟨⟨_, rfl, Hhret.out⟩, hfin⟩
  obtain rfl : n = 0 := by omega
  have hG1 := hg.1 rfl
  have hN0 := hG1.1
  have hN1 := hG1.2.1
  obtain ⟨nN, rfl⟩ : ∃ nN : Nat, N = (nN : Int) := ⟨N.toNat, by omega⟩
  clear hg hn
  obtain ⟨A7, cap7, rfl, hcap7⟩ := own_form hown
  have c0z := (hbel.cell (p := ⟨w.heap.size, 0, none⟩) hz0).trans c0
  have c1z := (hbel.cell (p := ⟨w.heap.size, 1, none⟩) hz0).trans c1
  have Hhown := Lib.hid hown; clear hown; have HhG1 := Lib.hid hG1; clear hG1
  go_wp2_with fail
  go_loopw [3, 4] (fun l i wr => ∃ (k n : Nat) (xs : List Value), k ≤ T.length ∧ i = .int .i64 k ∧ wr.ownsRow w0.heap.size 90 3 l n xs ∧ (n = 0 ↔ ∀ i, i < k → Three (triAt T i)) ∧ n ≤ k ∧ Below w0.heap.size w0 wr) (fun _ i _ => T.length - (intOf i).toNat)
  case atStart => exact ⟨0, 0, xs, by omega, rfl, Hhown.out, ⟨fun _ i hi => by omega, fun _ => rfl⟩, by omega, hbel⟩
  case round =>
    clear c0z c1z hbel hz1 hcap7
    obtain ⟨k, n, xs, hk, rfl, hown, hg, hnb, hbel⟩ := hrel
    obtain ⟨w2, hw2⟩ : ∃ w2, w2 = wr := ⟨_, rfl⟩
    subst hw2
    have hz2 := hbel.size
    have c0z := (hbel.cell (p := ⟨w.heap.size, 0, none⟩) hz0).trans c0
    have c1z := (hbel.cell (p := ⟨w.heap.size, 1, none⟩) hz0).trans c1
    by_cases hlt : k < T.length
    · obtain ⟨b, o, rfl, hb, a1, a2, a3⟩ := (HhTA.out.below keeps_tri (hbel.mono hle)).tri_at hlt
      rw [triAt_get hlt] at a1 a2 a3
      have hbw : b < w2.heap.size := by omega
      have hst : ∀ n3 : Nat, (n3 = 0 ↔ n = 0 ∧ Three (triAt T k)) → (n3 = 0 ↔ ∀ i, i < k + 1 → Three (triAt T i)) := fun n3 h3 => by
        rw [h3, hg]
        constructor
        · rintro ⟨h4, h5⟩ i hi
          by_cases hik : i = k
          · rw [hik]; exact h5
          · exact h4 i (by omega)
        · exact fun h4 => ⟨fun i hi => h4 i (by omega), h4 k (by omega)⟩
      generalize triAt T k = x at *
      obtain ⟨x1, x2, x3⟩ := x
      simp only [] at a1 a2 a3
      have hbA := (hbel.alloc hz2 (.cells #[.int .i64 x1, .int .i64 x2, .int .i64 x3] 43))
      have o1 := hown.alloc (.cells #[.int .i64 x1, .int .i64 x2, .int .i64 x3] 43)
      by_cases ht : x1 ≠ x2 ∧ x2 ≠ x3 ∧ x3 ≠ x1
      · have hs9 := hst n ⟨fun h => ⟨h, ht⟩, fun h => h.1⟩
        obtain ⟨t1, t2, t3⟩ := ht
        have Hhown := Lib.hid hown; clear hown; have Hhg := Lib.hid hg; clear hg; have Ho1 := Lib.hid o1; clear o1; have Hhst := Lib.hid hst; clear hst; have Hhs9 := Lib.hid hs9; clear hs9
        go_wp2_with fail
        exact ⟨⟨k + 1, n, xs, by omega, by simp, Ho1.out, Hhs9.out, by omega, hbA⟩, by simp [intOf]; omega⟩
      · have hs9 := hst (n + 1) ⟨fun h => by omega, fun h => absurd h.2 ht⟩
        have h3 : x1 = x2 ∨ (x1 ≠ x2 ∧ (x2 = x3 ∨ (x2 ≠ x3 ∧ x3 = x1))) := by omega
        have Hhown := Lib.hid hown; clear hown; have Hhg := Lib.hid hg; clear hg; have Ho1 := Lib.hid o1; clear o1; have Hhst := Lib.hid hst; clear hst; have Hhs9 := Lib.hid hs9; clear hs9
        clear ht
        rcases h3 with rfl | ⟨t1, rfl | ⟨t2, rfl⟩⟩
        all_goals
          go_wp2_with (at_builtin; refine append_block _ rfl (.tmp 47) (.tmp 50) 75 rfl w0.heap.size info_wit9 Try.underlying75 rfl (by decide) _ n xs rfl (Ho1.out.alloc _) (w2.heap.size + 1) [.int .i64 2, .int .i64 k, .int .i64 0] rfl (Bk.new' _ _ (by simp)) rfl (by simp [Value.oneCell']) (by omega) (by omega) (by simp; omega) ?_; intro v1 w5 hown5 hb5 _ _; have Hhown5 := Lib.hid hown5; clear hown5)
          exact ⟨⟨k + 1, n + 1, _, by omega, by simp, Hhown5.out, Hhs9.out, by omega, (hbA.alloc (by simp; omega) _).trans hb5⟩, by simp [intOf]; omega⟩
    obtain rfl : k = T.length := by omega
    by_cases hn : 0 < n
    · have hret : Wz w2 w.heap.size _ (Surf ((nN : Int)) T) := ⟨n, xs, own_base hown (by omega), ⟨fun h9 => absurd h9 (by omega), fun h9 => absurd (hg.2 ((Hhsi.out.1 h9).2.1)) (by omega)⟩, by omega⟩
      have hfin := hb1.trans (hbel.mono hb1.size)
      obtain ⟨A7, cap7, rfl, hcap7⟩ := own_form hown
      have Hhown := Lib.hid hown; clear hown; have Hhret := Lib.hid hret; clear hret; have Hhg := Lib.hid hg; clear hg
      go_wp2_with fail
      go_ret
      exact ⟨⟨_, rfl, Hhret.out⟩, hfin⟩
    obtain rfl : n = 0 := by omega
    have hG2 : G2 T := hg.1 rfl
    obtain ⟨A7, cap7, rfl, hcap7⟩ := own_form hown
    have hp3 := Hhpr.out 3 twB (.inl ⟨rfl, rfl⟩) w2 (HhTA.out.below keeps_tri (hbel.mono hle)) (by omega)
    clear hg hn
    have Hhown := Lib.hid hown; clear hown; have HhG2 := Lib.hid hG2; clear hG2; have Hhp3 := Lib.hid hp3; clear hp3
    go_wp2_with fail
    refine Hhp3.out.mono ?_
    rintro e w3 ⟨⟨v1, rfl, n, xs, hown, hg, hnb⟩, hb9⟩
    have hown := own_base hown hz2
    have hbel := hbel.trans (hb9.mono hz2)
    have hz3 := hbel.size
    clear c0z c1z hb9 hz2
    have c0z := (hbel.cell (p := ⟨w.heap.size, 0, none⟩) hz0).trans c0
    have c1z := (hbel.cell (p := ⟨w.heap.size, 1, none⟩) hz0).trans c1
    by_cases hn : 0 < n
    · have hret : Wz w3 w.heap.size _ (Surf ((nN : Int)) T) := ⟨n, xs, own_base hown (by omega), ⟨fun h9 => absurd h9 (by omega), fun h9 => absurd (hg.2 ((Hhsi.out.1 h9).2.2.1)) (by omega)⟩, by omega⟩
      have hfin := hb1.trans (hbel.mono hb1.size)
      obtain ⟨A7, cap7, rfl, hcap7⟩ := own_form hown
      have Hhown := Lib.hid hown; clear hown; have Hhret := Lib.hid hret; clear hret; have Hhg := Lib.hid hg; clear hg
      go_wp2_with fail
      go_ret
      exact ⟨⟨_, rfl, Hhret.out⟩, hfin⟩
    obtain rfl : n = 0 := by omega
    have hG3 := hg.1 rfl
    obtain ⟨A7, cap7, rfl, hcap7⟩ := own_form hown
    have hp4 := Hhpr.out 4 vsB (.inr ⟨rfl, rfl⟩) w3 (HhTA.out.below keeps_tri (hbel.mono hle)) (by omega)
    clear hg hn
    have Hhown := Lib.hid hown; clear hown; have HhG3 := Lib.hid hG3; clear hG3; have Hhp4 := Lib.hid hp4; clear hp4
    go_wp2_with fail
    refine Hhp4.out.mono ?_
    rintro e w4 ⟨⟨v1, rfl, n, xs, hown, hg, hnb⟩, hb9⟩
    have hown := own_base hown hz3
    have hbel := hbel.trans (hb9.mono hz3)
    have hz4 := hbel.size
    clear c0z c1z hb9 hz3
    have c0z := (hbel.cell (p := ⟨w.heap.size, 0, none⟩) hz0).trans c0
    have c1z := (hbel.cell (p := ⟨w.heap.size, 1, none⟩) hz0).trans c1
    by_cases hn : 0 < n
    · have hret : Wz w4 w.heap.size _ (Surf ((nN : Int)) T) := ⟨n, xs, own_base hown (by omega), ⟨fun h9 => absurd h9 (by omega), fun h9 => absurd (hg.2 ((Hhsi.out.1 h9).2.2.2.1)) (by omega)⟩, by omega⟩
      have hfin := hb1.trans (hbel.mono hb1.size)
      obtain ⟨A7, cap7, rfl, hcap7⟩ := own_form hown
      have Hhown := Lib.hid hown; clear hown; have Hhret := Lib.hid hret; clear hret; have Hhg := Lib.hid hg; clear hg
      go_wp2_with fail
      go_ret
      exact ⟨⟨_, rfl, Hhret.out⟩, hfin⟩
    obtain rfl : n = 0 := by omega
    have hG4 := hg.1 rfl
    obtain ⟨A7, cap7, rfl, hcap7⟩ := own_form hown
    clear hg hn
    have Hhown := Lib.hid hown; clear hown; have HhG4 := Lib.hid hG4; clear hG4
    go_wp2_with fail
    go_loopw [3, 6] (fun l i wr => ∃ (u n : Nat) (xs : List Value), u ≤ nN ∧ i = .int .i64 u ∧ wr.ownsRow w0.heap.size 90 3 l n xs ∧ (n = 0 ↔ ∀ u' : Nat, u' < u → ∃ i, i < T.length ∧ haB (triAt T i) u' = true) ∧ n ≤ u ∧ Below w0.heap.size w0 wr) (fun _ i _ => nN - (intOf i).toNat)
    case atStart => exact ⟨0, 0, xs, by omega, rfl, Hhown.out, ⟨fun _ i hi => by omega, fun _ => rfl⟩, by omega, hbel⟩
    case round =>
      clear c0z c1z hbel hz4 hcap7
      obtain ⟨u, n, xs, hu, rfl, hown, hg, hnb, hbel⟩ := hrel
      obtain ⟨w5, hw5⟩ : ∃ w5, w5 = wr := ⟨_, rfl⟩
      subst hw5
      have hz5 := hbel.size
      have c0z := (hbel.cell (p := ⟨w.heap.size, 0, none⟩) hz0).trans c0
      have c1z := (hbel.cell (p := ⟨w.heap.size, 1, none⟩) hz0).trans c1
      by_cases hun : u < nN
      · have Hhown := Lib.hid hown; clear hown; have Hhg := Lib.hid hg; clear hg
        go_wp2_with fail
        go_loopw [7, 8] (fun bv jv wr => ∃ (m : Nat) (bd : Bool), m ≤ T.length ∧ jv = .int .i64 m ∧ bv = .bool bd ∧ (bd = true ↔ ∃ i, i < m ∧ haB (triAt T i) u = true) ∧ Below w5.heap.size w5 wr) (fun _ j _ => T.length - (intOf j).toNat)
        case atStart => exact ⟨0, false, by omega, rfl, rfl, ⟨fun h => (by cases h), fun ⟨i, hi, _⟩ => by omega⟩, Below.refl _ _⟩
        case round =>
          clear c0z c1z
          obtain ⟨m, bd, hm, rfl, rfl, hbd, hbel2⟩ := hrel
          have hbel3 := hbel.trans (hbel2.mono hz5)
          have hz6 := hbel2.size
          have c0z := (hbel3.cell (p := ⟨w.heap.size, 0, none⟩) hz0).trans c0
          have c1z := (hbel3.cell (p := ⟨w.heap.size, 1, none⟩) hz0).trans c1
          have hownw := own_below Hhown.out hbel2 (Nat.le_refl _)
          by_cases hmT : m < T.length
          · have hst : ∀ b2 : Bool, (b2 = true ↔ bd = true ∨ haB (triAt T m) u = true) → (b2 = true ↔ ∃ i, i < m + 1 ∧ haB (triAt T i) u = true) := fun b2 h2 => by
              rw [h2, hbd]
              constructor
              · rintro (⟨i, hi, h⟩ | h)
                · exact ⟨i, by omega, h⟩
                · exact ⟨m, by omega, h⟩
              · rintro ⟨i, hi, h⟩
                by_cases him : i = m
                · rw [← him]; exact .inr h
                · exact .inl ⟨i, by omega, h⟩
            cases bd with
            | true =>
              have h9 := hst true (by simp)
              have Hhownw := Lib.hid hownw; clear hownw; have Hhbd := Lib.hid hbd; clear hbd; have Hhst := Lib.hid hst; clear hst; have Hh9 := Lib.hid h9; clear h9
              go_wp2_with fail
              exact ⟨⟨m + 1, true, by omega, by simp, rfl, Hh9.out, hbel2⟩, by simp [intOf]; omega⟩
            | false =>
              obtain ⟨b, o, rfl, hb, a1, a2, a3⟩ := (HhTA.out.below keeps_tri (hbel3.mono hle)).tri_at hmT
              rw [triAt_get hmT] at a1 a2 a3
              have hha := has9_calls (triAt T m) u
              generalize triAt T m = x at *
              obtain ⟨x1, x2, x3⟩ := x
              simp only [triV] at a1 a2 a3 hha
              generalize haB (x1, x2, x3) u = bq at *
              have Hhownw := Lib.hid hownw; clear hownw; have Hhbd := Lib.hid hbd; clear hbd; have Hhst := Lib.hid hst; clear hst; have Hhha := Lib.hid hha; clear hha
              go_wp2_with fail
              refine (Hhha.out _).mono ?_
              rintro e w6 ⟨rfl, hb9⟩
              have h9 := Hhst.out bq (by simp)
              have hb10 := hbel2.trans (hb9.mono hz6)
              have Hh9 := Lib.hid h9; clear h9
              go_wp2_with fail
              exact ⟨⟨m + 1, bq, by omega, by simp, rfl, Hh9.out, hb10⟩, by simp [intOf]; omega⟩
          · obtain rfl : m = T.length := by omega
            have hst : ∀ n3 : Nat, (n3 = 0 ↔ n = 0 ∧ bd = true) → (n3 = 0 ↔ ∀ u' : Nat, u' < u + 1 → ∃ i, i < T.length ∧ haB (triAt T i) u' = true) := fun n3 h3 => by
              rw [h3, Hhg.out, hbd]
              constructor
              · rintro ⟨h4, h5⟩ u' hu'
                by_cases huu : u' = u
                · rw [huu]; exact h5
                · exact h4 u' (by omega)
              · exact fun h4 => ⟨fun u' hu' => h4 u' (by omega), h4 u (by omega)⟩
            have hz7 := hbel3.size
            cases bd with
            | true =>
              have hs9 := hst n (by simp)
              have Hhownw := Lib.hid hownw; clear hownw; have Hhbd := Lib.hid hbd; clear hbd; have Hhst := Lib.hid hst; clear hst; have Hhs9 := Lib.hid hs9; clear hs9
              go_wp2_with fail
              exact ⟨⟨u + 1, n, xs, by omega, by simp, Hhownw.out, Hhs9.out, by omega, hbel3⟩, by simp [intOf]; omega⟩
            | false =>
              have hs9 := hst (n + 1) (by simp)
              have Hhownw := Lib.hid hownw; clear hownw; have Hhbd := Lib.hid hbd; clear hbd; have Hhst := Lib.hid hst; clear hst; have Hhs9 := Lib.hid hs9; clear hs9
              go_wp2_with (at_builtin; refine append_block _ rfl (.tmp 93) (.tmp 96) 75 rfl w0.heap.size info_wit9 Try.underlying75 rfl (by decide) _ n xs rfl (Hhownw.out.alloc _) wr.heap.size [.int .i64 5, .int .i64 u, .int .i64 0] rfl (Bk.new _ _ _) rfl (by simp [Value.oneCell']) (by omega) (by omega) (by simp; omega) ?_; intro v1 w8 hown8 hb8 _ _; have Hhown8 := Lib.hid hown8; clear hown8)
              exact ⟨⟨u + 1, n + 1, _, by omega, by simp, Hhown8.out, Hhs9.out, by omega, (hbel3.alloc hz7 _).trans hb8⟩, by simp [intOf]; omega⟩
      obtain rfl : u = nN := by omega
      by_cases hn : 0 < n
      · have hret : Wz w5 w.heap.size _ (Surf ((u : Int)) T) := ⟨n, xs, own_base hown (by omega), ⟨fun h9 => absurd h9 (by omega), fun h9 => absurd (hg.2 (fun u' hu' => (Hhsi.out.1 h9).2.2.2.2.1 u' (by omega))) (by omega)⟩, by omega⟩
        have hfin := hb1.trans (hbel.mono hb1.size)
        obtain ⟨A7, cap7, rfl, hcap7⟩ := own_form hown
        have Hhown := Lib.hid hown; clear hown; have Hhret := Lib.hid hret; clear hret; have Hhg := Lib.hid hg; clear hg
        go_wp2_with fail
        go_ret
        exact ⟨⟨_, rfl, Hhret.out⟩, hfin⟩
      obtain rfl : n = 0 := by omega
      have hG5 : G5 (u : Int) T := fun u' hu' => hg.1 rfl u' (by omega)
      obtain ⟨A7, cap7, rfl, hcap7⟩ := own_form hown
      clear hg hn
      have Hhown := Lib.hid hown; clear hown; have HhG5 := Lib.hid hG5; clear hG5
      go_wp2_with fail
      go_loopw [3, 9] (fun l i wr => ∃ (z n : Nat) (xs : List Value), z ≤ u ∧ i = .int .i64 z ∧ wr.ownsRow w0.heap.size 90 3 l n xs ∧ (n = 0 ↔ ∀ u' : Nat, u' < z → T.filter (haB · (u' : Int)) = [] ∨ Cn (T.filter (haB · (u' : Int))) u') ∧ n ≤ z ∧ Below w0.heap.size w0 wr) (fun _ i _ => u - (intOf i).toNat)
      case atStart => exact ⟨0, 0, xs, by omega, rfl, Hhown.out, ⟨fun _ i hi => by omega, fun _ => rfl⟩, by omega, hbel⟩
      case round =>
        clear c0z c1z hbel hz5 hcap7
        obtain ⟨z, n, xs, hz, rfl, hown, hg, hnb, hbel⟩ := hrel
        obtain ⟨w6, hw6⟩ : ∃ w6, w6 = wr := ⟨_, rfl⟩
        subst hw6
        have hz6 := hbel.size
        have c0z := (hbel.cell (p := ⟨w.heap.size, 0, none⟩) hz0).trans c0
        have c1z := (hbel.cell (p := ⟨w.heap.size, 1, none⟩) hz0).trans c1
        by_cases hzu : z < u
        · have hst : ∀ n3 : Nat, (n3 = 0 ↔ n = 0 ∧ (T.filter (haB · (z : Int)) = [] ∨ Cn (T.filter (haB · (z : Int))) z)) → (n3 = 0 ↔ ∀ u' : Nat, u' < z + 1 → T.filter (haB · (u' : Int)) = [] ∨ Cn (T.filter (haB · (u' : Int))) u') := fun n3 h3 => by
            rw [h3, hg]
            constructor
            · rintro ⟨h4, h5⟩ u' hu'
              by_cases huu : u' = z
              · rw [huu]; exact h5
              · exact h4 u' (by omega)
            · exact fun h4 => ⟨fun u' hu' => h4 u' (by omega), h4 z (by omega)⟩
          have hpz := Hhpi.out z w6 (HhTA.out.below keeps_tri (hbel.mono hle)) (by omega)
          generalize (T.filter (haB · (z : Int)) = [] ∨ Cn (T.filter (haB · (z : Int))) z) = G at *
          have Hhown := Lib.hid hown; clear hown; have Hhg := Lib.hid hg; clear hg; have Hhst := Lib.hid hst; clear hst; have Hhpz := Lib.hid hpz; clear hpz
          go_wp2_with fail
          refine Hhpz.out.mono ?_
          rintro e w7 ⟨⟨bq, rfl, hq⟩, hb9⟩
          have hbel3 := hbel.trans (hb9.mono hz6)
          have hz7 := hbel3.size
          have hownw := own_below Hhown.out hb9 (Nat.le_refl _)
          cases bq with
          | false =>
            have hs9 := Hhst.out n ⟨fun h => ⟨h, hq.1 rfl⟩, fun h => h.1⟩
            have Hhownw := Lib.hid hownw; clear hownw; have Hhq := Lib.hid hq; clear hq; have Hhs9 := Lib.hid hs9; clear hs9
            go_wp2_with fail
            exact ⟨⟨z + 1, n, xs, by omega, by simp, Hhownw.out, Hhs9.out, by omega, hbel3⟩, by simp [intOf]; omega⟩
          | true =>
            have hs9 := Hhst.out (n + 1) ⟨fun h => by omega, fun h => by have := hq.2 h.2; cases this⟩
            have Hhownw := Lib.hid hownw; clear hownw; have Hhq := Lib.hid hq; clear hq; have Hhs9 := Lib.hid hs9; clear hs9
            go_wp2_with (at_builtin; refine append_block _ rfl (.tmp 111) (.tmp 114) 75 rfl w0.heap.size info_wit9 Try.underlying75 rfl (by decide) _ n xs rfl (Hhownw.out.alloc _) w7.heap.size [.int .i64 6, .int .i64 z, .int .i64 0] rfl (Bk.new _ _ _) rfl (by simp [Value.oneCell']) (by omega) (by omega) (by simp; omega) ?_; intro v1 w8 hown8 hb8 _ _; have Hhown8 := Lib.hid hown8; clear hown8)
            exact ⟨⟨z + 1, n + 1, _, by omega, by simp, Hhown8.out, Hhs9.out, by omega, (hbel3.alloc hz7 _).trans hb8⟩, by simp [intOf]; omega⟩
        obtain rfl : z = u := by omega
        have hret : Wz w6 w.heap.size _ (Surf (z : Int) T) := ⟨n, xs, own_base hown (by omega), hg.trans ⟨fun h9 => Hhsi.out.2 ⟨HhG1.out, HhG2.out, HhG3.out, HhG4.out, HhG5.out, fun u' hu' => h9 u' (by omega)⟩, fun h9 u' hu' => (Hhsi.out.1 h9).2.2.2.2.2 u' (by omega)⟩, by omega⟩
        have hfin := hb1.trans (hbel.mono hb1.size)
        obtain ⟨A7, cap7, rfl, hcap7⟩ := own_form hown
        have Hhown := Lib.hid hown; clear hown; have Hhret := Lib.hid hret; clear hret; have Hhg := Lib.hid hg; clear hg
        go_wp2_with fail
        go_ret
        exact ⟨⟨_, rfl, Hhret.out⟩, hfin⟩

set_option maxRecDepth 20000 in
theorem surface9_calls (sv : Value) (N : Int) (T : List T3) (w : World) {B : Nat} (hB0 : B ≤ w.heap.size) (hT : Sl 3 RTri w B sv T) (hfew : T.length ≤ 200) :
    Calls Try.prog 13 #[.agg #[.int .i64 N, sv]] w fun e w' => SaysYes e (Surf N T) ∧ Below w.heap.size w w' := by
  obtain ⟨A, cap, rfl, hcap⟩ := hT.form
  have hbox := Bk.new w 24 [.int .i64 N, .slice A T.length cap]
  have hb1 := (Below.refl w.heap.size w).alloc (Nat.le_refl _) (.cells #[.int .i64 N, .slice A T.length cap] 24)
  have hTA := hT.below keeps_tri (hb1.mono hB0)
  have hle : B ≤ (w.alloc (.cells #[.int .i64 N, .slice A T.length cap] 24)).heap.size := by rw [World.size_alloc]; omega
  have hal := all9_calls (.slice A T.length cap) N T _ hle hTA hfew
  have hz0 := hb1.size
  have HhT := Lib.hid hT; clear hT; have HhTA := Lib.hid hTA; clear hTA; have Hhbox := Lib.hid hbox; clear hbox; have Hhal := Lib.hid hal; clear hal
  go_enter Try.func13, Try.ntmps13
  go_wp2_with fail
  refine Hhal.out.mono ?_
  rintro e w1 ⟨⟨v1, rfl, n, xs, hown, hg, hnb⟩, hbel⟩
  have hfin := hb1.trans (hbel.mono hz0)
  obtain ⟨A7, cap7, rfl, hcap7⟩ := own_form hown
  by_cases hn : n = 0
  · have hs := hg.1 hn
    have hnz : ((n : Int) == 0) = true := by rw [hn]; rfl
    clear hn
    have Hhown := Lib.hid hown; clear hown; have Hhg := Lib.hid hg; clear hg; have Hhs := Lib.hid hs; clear hs
    go_wp2_with fail
    go_ret
    exact ⟨⟨true, rfl, ⟨fun _ => Hhs.out, fun _ => rfl⟩⟩, hfin⟩
  · have hs : ¬ Surf N T := fun h => hn (hg.2 h)
    have hnz : ((n : Int) == 0) = false := by rw [beq_eq_false_iff_ne]; omega
    clear hn
    have Hhown := Lib.hid hown; clear hown; have Hhg := Lib.hid hg; clear hg; have Hhs := Lib.hid hs; clear hs
    go_wp2_with fail
    go_ret
    exact ⟨⟨false, rfl, ⟨fun h => (by cases h), fun h => absurd h Hhs.out⟩⟩, hfin⟩
end Go.Proofs.Ytpbdcppaiafbgaa

namespace Go.Mesh
/-- The corners that face a border edge. -/
def bord (T : List T3) : List Nat := (List.range (3 * T.length)).filter fun c => (opp T c).isNone
def bedges (T : List T3) : List (Int × Int) := (bord T).map (eg T)
/-- The vertex behind one on the border. -/
def aftV (T : List T3) (v : Int) : Option Int := ((bedges T).find? fun e => e.2 == v).map (·.1)
def afI (T : List T3) (v : Int) : Int := (aftV T v).getD (-1)
/-- The same on Nat. -/
def bf (T : List T3) (u : Nat) : Option Nat := (aftV T (u : Int)).map Int.toNat
/-- The loop that a vertex is on. -/
def loopAt (T : List T3) (N v : Int) : List Nat := if (aftV T v).isSome then runF (bf T) v.toNat N.toNat v.toNat else []

section
variable {N : Int} {T : List T3}
theorem mem_bord {c : Nat} : c ∈ bord T ↔ c < 3 * T.length ∧ opp T c = none := by
  unfold bord
  rw [List.mem_filter, List.mem_range, Option.isNone_iff_eq_none]
theorem bord_nodup (T : List T3) : (bord T).Nodup := List.nodup_range.sublist List.filter_sublist
theorem bord_len (T : List T3) : (bord T).length ≤ 3 * T.length := by
  have := List.length_filter_le (fun c => (opp T c).isNone) (List.range (3 * T.length))
  rwa [List.length_range] at this
theorem mem_bedges {e : Int × Int} : e ∈ bedges T ↔ ∃ c, c < 3 * T.length ∧ opp T c = none ∧ eg T c = e := by
  unfold bedges
  rw [List.mem_map]
  constructor
  · rintro ⟨c, hc, he⟩
    exact ⟨c, (mem_bord.1 hc).1, (mem_bord.1 hc).2, he⟩
  · rintro ⟨c, h1, h2, he⟩
    exact ⟨c, mem_bord.2 ⟨h1, h2⟩, he⟩
theorem aft_none {c : Nat} : aft T c = none ↔ opp T (nx c) = none := by unfold aft; rw [Option.map_eq_none_iff]
theorem bef_none {c : Nat} : bef T c = none ↔ opp T (pv c) = none := by unfold bef; rw [Option.map_eq_none_iff]
theorem Surf.ring_at (h : Surf N T) {c : Nat} (hc : c < 3 * T.length) : 0 < (ringAt T N (vt T c)).length ∧ Ring T (vt T c) (ringAt T N (vt T c)) (innerAt T N (vt T c)) := by
  rcases h.ring_or (vt T c) with ⟨_, h2, _⟩ | ⟨h1, _, h3⟩
  · exact absurd (h.rng c hc) h2
  · exact ⟨h1, h3⟩
/-- The corner with none behind it is the last around its vertex. -/
theorem Surf.last_at (h : Surf N T) {c : Nat} (hc : c < 3 * T.length) (ha : aft T c = none) : (ringAt T N (vt T c))[(ringAt T N (vt T c)).length - 1]? = some c ∧ innerAt T N (vt T c) = false := by
  obtain ⟨hl, hr⟩ := h.ring_at hc
  obtain ⟨b, hrun⟩ := hr.run
  obtain ⟨i, hi, hic⟩ := List.getElem_of_mem ((hr.mem c).2 ⟨hc, rfl⟩)
  have hlast : i + 1 = (ringAt T N (vt T c)).length := by
    rcases Nat.lt_or_ge (i + 1) (ringAt T N (vt T c)).length with h9 | h9
    · have := hrun.steps i h9
      rw [hic, ha] at this
      cases this
    · omega
  have he : (ringAt T N (vt T c))[(ringAt T N (vt T c)).length - 1]'(by omega) = c := by
    refine Eq.trans ?_ hic
    congr 1
    omega
  refine ⟨by rw [List.getElem?_eq_getElem (by omega), he], (hr.last hl).1 (by rw [he]; exact ha)⟩
/-- The corner with none ahead of it is the first around its vertex. -/
theorem Surf.first_at (h : Surf N T) {c : Nat} (hc : c < 3 * T.length) (ha : bef T c = none) : (ringAt T N (vt T c))[0]? = some c ∧ innerAt T N (vt T c) = false := by
  obtain ⟨hl, hr⟩ := h.ring_at hc
  obtain ⟨b, hrun⟩ := hr.run
  obtain ⟨i, hi, hic⟩ := List.getElem_of_mem ((hr.mem c).2 ⟨hc, rfl⟩)
  have h0 : i = 0 := by
    cases i with
    | zero => rfl
    | succ i =>
      have := h.aft_bef (hrun.lt _ (List.getElem_mem (by omega))) (hrun.steps i hi)
      rw [hic, ha] at this
      cases this
  subst h0
  refine ⟨by rw [List.getElem?_eq_getElem hl, hic], (hr.head hl).1 (by rw [hic]; exact ha)⟩
theorem Surf.edge_out (h : Surf N T) {c d : Nat} (hc : c < 3 * T.length) (hd : d < 3 * T.length) (oc : opp T c = none) (od : opp T d = none) (hv : vt T (pv c) = vt T (pv d)) : c = d := by
  have h1 := (h.last_at (pv_lt hc) (aft_none.2 (by rw [nx_pv]; exact oc))).1
  have h2 := (h.last_at (pv_lt hd) (aft_none.2 (by rw [nx_pv]; exact od))).1
  rw [hv, h2] at h1
  exact (pv_inj (Option.some.inj h1)).symm
theorem Surf.edge_in (h : Surf N T) {c d : Nat} (hc : c < 3 * T.length) (hd : d < 3 * T.length) (oc : opp T c = none) (od : opp T d = none) (hv : vt T (nx c) = vt T (nx d)) : c = d := by
  have h1 := (h.first_at (nx_lt hc) (bef_none.2 (by rw [pv_nx]; exact oc))).1
  have h2 := (h.first_at (nx_lt hd) (bef_none.2 (by rw [pv_nx]; exact od))).1
  rw [hv, h2] at h1
  exact (nx_inj (Option.some.inj h1)).symm
/-- A vertex that is not inner has an edge out, and one in. -/
theorem Surf.edges_at (h : Surf N T) {v : Int} (hv : 0 ≤ v ∧ v < N) (hi : innerAt T N v = false) : (∃ c, c < 3 * T.length ∧ opp T c = none ∧ vt T (pv c) = v) ∧ ∃ c, c < 3 * T.length ∧ opp T c = none ∧ vt T (nx c) = v := by
  rcases h.ring_or v with ⟨_, h2, _⟩ | ⟨hl, _, hr⟩
  · exact absurd hv h2
  · have h1 := (hr.last hl).2 hi
    have h2 := (hr.head hl).2 hi
    have m1 := (hr.mem _).1 (List.getElem_mem (l := ringAt T N v) (n := (ringAt T N v).length - 1) (by omega))
    have m2 := (hr.mem _).1 (List.getElem_mem hl)
    exact ⟨⟨_, nx_lt m1.1, aft_none.1 h1, by rw [pv_nx]; exact m1.2⟩, ⟨_, pv_lt m2.1, bef_none.1 h2, by rw [nx_pv]; exact m2.2⟩⟩
theorem Surf.out_in (h : Surf N T) {c : Nat} (hc : c < 3 * T.length) (oc : opp T c = none) : ∃ d, d < 3 * T.length ∧ opp T d = none ∧ vt T (pv d) = vt T (nx c) :=
  (h.edges_at (h.rng _ (nx_lt hc)) (h.first_at (nx_lt hc) (bef_none.2 (by rw [pv_nx]; exact oc))).2).1
theorem Surf.in_out (h : Surf N T) {c : Nat} (hc : c < 3 * T.length) (oc : opp T c = none) : ∃ d, d < 3 * T.length ∧ opp T d = none ∧ vt T (nx d) = vt T (pv c) :=
  (h.edges_at (h.rng _ (pv_lt hc)) (h.last_at (pv_lt hc) (aft_none.2 (by rw [nx_pv]; exact oc))).2).2
theorem Surf.aftV_iff (h : Surf N T) {v a : Int} : aftV T v = some a ↔ ∃ c, c < 3 * T.length ∧ opp T c = none ∧ vt T (pv c) = v ∧ vt T (nx c) = a := by
  unfold aftV
  rw [Option.map_eq_some_iff]
  constructor
  · rintro ⟨e, he, rfl⟩
    obtain ⟨c, h1, h2, rfl⟩ := mem_bedges.1 (List.mem_of_find?_eq_some he)
    have := List.find?_some he
    exact ⟨c, h1, h2, by simpa [eg] using this, rfl⟩
  · rintro ⟨c, h1, h2, rfl, rfl⟩
    have hm : eg T c ∈ bedges T := mem_bedges.2 ⟨c, h1, h2, rfl⟩
    cases hf : (bedges T).find? fun e => e.2 == vt T (pv c) with
    | none =>
      have := List.find?_eq_none.1 hf _ hm
      simp [eg] at this
    | some e =>
      obtain ⟨d, g1, g2, rfl⟩ := mem_bedges.1 (List.mem_of_find?_eq_some hf)
      have g3 : vt T (pv d) = vt T (pv c) := by simpa [eg] using List.find?_some hf
      rw [h.edge_out g1 h1 g2 h2 g3]
      exact ⟨_, rfl, rfl⟩
theorem Surf.aftV_rng (h : Surf N T) {v a : Int} (ha : aftV T v = some a) : (0 ≤ v ∧ v < N) ∧ 0 ≤ a ∧ a < N := by
  obtain ⟨c, h1, _, rfl, rfl⟩ := h.aftV_iff.1 ha
  exact ⟨h.rng _ (pv_lt h1), h.rng _ (nx_lt h1)⟩
theorem Surf.aftV_inj (h : Surf N T) {v w a : Int} (h1 : aftV T v = some a) (h2 : aftV T w = some a) : v = w := by
  obtain ⟨c, c1, c2, rfl, c4⟩ := h.aftV_iff.1 h1
  obtain ⟨d, d1, d2, rfl, d4⟩ := h.aftV_iff.1 h2
  rw [h.edge_in c1 d1 c2 d2 (c4.trans d4.symm)]
theorem Surf.aftV_on (h : Surf N T) {v a : Int} (ha : aftV T v = some a) : ∃ b, aftV T a = some b := by
  obtain ⟨c, h1, h2, rfl, rfl⟩ := h.aftV_iff.1 ha
  obtain ⟨d, g1, g2, g3⟩ := h.out_in h1 h2
  exact ⟨_, h.aftV_iff.2 ⟨d, g1, g2, g3, rfl⟩⟩
theorem Surf.aftV_inner (h : Surf N T) {v : Int} (hv : 0 ≤ v ∧ v < N) : innerAt T N v = (aftV T v).isNone := by
  cases hi : innerAt T N v with
  | false =>
    obtain ⟨c, h1, h2, h3⟩ := (h.edges_at hv hi).1
    rw [h.aftV_iff.2 ⟨c, h1, h2, h3, rfl⟩]
    rfl
  | true =>
    cases ha : aftV T v with
    | none => rfl
    | some a =>
      obtain ⟨c, h1, h2, rfl, rfl⟩ := h.aftV_iff.1 ha
      have := (h.last_at (pv_lt h1) (aft_none.2 (by rw [nx_pv]; exact h2))).2
      rw [hi] at this
      cases this
theorem Surf.bf_iff (h : Surf N T) {u x : Nat} : bf T u = some x ↔ aftV T (u : Int) = some (x : Int) := by
  unfold bf
  rw [Option.map_eq_some_iff]
  constructor
  · rintro ⟨a, ha, rfl⟩
    have := (h.aftV_rng ha).2
    rw [ha, Int.toNat_of_nonneg this.1]
  · intro ha
    exact ⟨_, ha, by simp⟩
theorem Surf.loop_run (h : Surf N T) {u x : Nat} (hx : bf T u = some x) : IsRun (bf T) u N.toNat (runF (bf T) u N.toNat u) :=
  run_is (fun c d x h1 h2 => by
    have := h.aftV_inj (h.bf_iff.1 h1) (h.bf_iff.1 h2)
    omega) (fun c d hcd => by have := (h.aftV_rng (h.bf_iff.1 hcd)).2; omega) (by have := (h.aftV_rng (h.bf_iff.1 hx)).1; omega)
theorem bf_isSome {u : Nat} : (bf T u).isSome = (aftV T (u : Int)).isSome := by unfold bf; rw [Option.isSome_map]
/-- Every vertex on a loop has one behind it, and the last one the first. -/
theorem Surf.loop_all (h : Surf N T) {u x : Nat} (hx : bf T u = some x) : (∀ c ∈ runF (bf T) u N.toNat u, ∃ d, bf T c = some d) ∧ ∃ hl : 0 < (runF (bf T) u N.toNat u).length, bf T ((runF (bf T) u N.toNat u)[(runF (bf T) u N.toNat u).length - 1]'(by omega)) = some u := by
  have hr := h.loop_run hx
  have hall : ∀ c ∈ runF (bf T) u N.toNat u, ∃ d, bf T c = some d := hr.all (fun c => ∃ d, bf T c = some d) ⟨x, hx⟩ fun c d _ _ hcd => by
    obtain ⟨b, hb⟩ := h.aftV_on (h.bf_iff.1 hcd)
    have := (h.aftV_rng hb).2
    exact ⟨b.toNat, h.bf_iff.2 (by rw [hb, Int.toNat_of_nonneg this.1])⟩
  refine ⟨hall, hr.ne, ?_⟩
  have hm : (runF (bf T) u N.toNat u)[(runF (bf T) u N.toNat u).length - 1]'(by have := hr.ne; omega) ∈ runF (bf T) u N.toNat u := List.getElem_mem _
  obtain ⟨d, hd⟩ := hall _ hm
  rcases hr.last with h1 | h1
  · rw [h1] at hd
    cases hd
  · exact h1
end
end Go.Mesh

namespace Go.Mesh
def pvals : List (Int × Int) → List Value
  | [] => []
  | e :: l => .int .i64 e.1 :: .int .i64 e.2 :: pvals l
theorem pvals_snoc : ∀ (l : List (Int × Int)) (e : Int × Int), pvals (l ++ [e]) = pvals l ++ [.int .i64 e.1, .int .i64 e.2]
  | [], _ => rfl
  | x :: l, e => by simp only [List.cons_append, pvals, pvals_snoc l e]
theorem pvals_at : ∀ (l : List (Int × Int)) (i : Nat) (t : Int × Int), l[i]? = some t → ((pvals l).drop (i * 2)).take 2 = [.int .i64 t.1, .int .i64 t.2]
  | [], i, t, h => by simp at h
  | x :: l, 0, t, h => by
    have : x = t := by simpa using h
    subst this
    simp [pvals]
  | x :: l, i + 1, t, h => by
    have h2 := pvals_at l i t (by simpa using h)
    rw [show (i + 1) * 2 = i * 2 + 1 + 1 by omega]
    simp only [pvals, List.drop_succ_cons]
    exact h2
/-- The border edges faced by corners below k. -/
def bpre (T : List T3) (k : Nat) : List (Int × Int) := ((List.range k).filter fun c => (opp T c).isNone).map (eg T)
theorem bpre_all (T : List T3) : bpre T (3 * T.length) = bedges T := rfl
theorem bpre_step (T : List T3) (k : Nat) : bpre T (k + 1) = bpre T k ++ (if opp T k = none then [eg T k] else []) := by
  unfold bpre
  rw [List.range_succ, List.filter_append, List.map_append]
  congr 1
  simp only [List.filter_cons, List.filter_nil, Option.isNone_iff_eq_none]
  split <;> rfl
theorem bpre_len (T : List T3) (k : Nat) : (bpre T k).length ≤ k := by
  unfold bpre
  rw [List.length_map]
  have := List.length_filter_le (fun c => (opp T c).isNone) (List.range k)
  rwa [List.length_range] at this
theorem bedges_nil : bedges [] = [] := rfl
end Go.Mesh
namespace Go.Proofs.Ytpbdcppaiafbgaa
open Go Go.RowKit Go.Words Go.Mesh

theorem sl_own_pairs {w : World} {base : Nat} {v : Value} {l : List (Int × Int)} (h : w.ownsRow base 47 2 v l.length (pvals l)) : Sl 2 RPair w w.heap.size v l :=
  Sl.of_own h fun i a hi => pvals_at l i a hi
theorem info_edge : (Try.prog.info? 47).map (fun i => (i.zero, i.size, i.bytes)) = some (some (.agg #[.int .i64 0, .int .i64 0]), 2, 16) := by kernel_rfl
theorem tab_triangles {w : World} {B : Nat} {tv : Value} {N : Int} {T : List T3} (h : Tab w B tv N T) : Calls Try.prog 39 #[tv] w fun e w' => e = .returned (.int .i64 T.length) ∧ w' = w := by
  obtain ⟨g, vt, gm, vf, m, F, rfl, h2, _⟩ := h
  exact triangles_calls h2
theorem tab_vertices {w : World} {B : Nat} {tv : Value} {N : Int} {T : List T3} (h : Tab w B tv N T) : Calls Try.prog 17 #[tv] w fun e w' => e = .returned (.int .i64 N) ∧ w' = w := by
  obtain ⟨g, vt, gm, vf, m, F, rfl, h2, _⟩ := h
  exact vertices_calls h2
theorem tab_edge {w : World} {B : Nat} {tv : Value} {N : Int} {T : List T3} (h : Tab w B tv N T) {c : Nat} (hc : c < 3 * T.length) : Calls Try.prog 30 #[tv, .int .i64 (c : Int)] w fun e w' => e = .returned (.agg #[.int .i64 (eg T c).1, .int .i64 (eg T c).2]) ∧ Below w.heap.size w w' := by
  obtain ⟨g, vt, gm, vf, m, F, rfl, h2, _⟩ := h
  have := edge_calls h2 (c : Int)
  rw [tEdge_at hc] at this
  exact this

set_option maxRecDepth 20000 in
set_option maxHeartbeats 1000000 in
theorem bedges_calls {w : World} {B : Nat} {tv : Value} {N : Int} {T : List T3} (h : TabN w B tv N T) (hs : Surf N T) :
    Calls Try.prog 23 #[tv] w fun e w' => (∃ r, e = .returned r ∧ w'.ownsRow w.heap.size 47 2 r (bedges T).length (pvals (bedges T))) ∧ Below w.heap.size w w' := by
  rcases h with h | ⟨rfl, rfl, rfl, _⟩
  case inr =>
    go_enter Try.func23, Try.ntmps23
    go_wp2_with fail
    go_ret
    exact ⟨⟨_, rfl, World.ownsRow_nil _ _ _ _⟩, Below.refl _ _⟩
  case inl =>
    have hle := h.le
    have htm := hs.tmax
    obtain ⟨g, rfl⟩ : ∃ g, tv = .pointer (some ⟨g, 0, none⟩) := by
      obtain ⟨g, _, _, _, _, _, rfl, _⟩ := h
      exact ⟨_, rfl⟩
    have htr := tab_triangles h
    have hop := fun wz (hz : Tab wz B (.pointer (some ⟨g, 0, none⟩)) N T) c (hc : c < 3 * T.length) => tab_opp (.inl hz) hs hc
    have hed := fun wz (hz : Tab wz B (.pointer (some ⟨g, 0, none⟩)) N T) c (hc : c < 3 * T.length) => tab_edge hz hc
    have hfin := bpre_all T
    have Hh := Lib.hid h; clear h; have Hhs := Lib.hid hs; clear hs; have Hhtr := Lib.hid htr; clear htr; have Hhop := Lib.hid hop; clear hop; have Hhed := Lib.hid hed; clear hed; have Hhfin := Lib.hid hfin; clear hfin
    go_enter Try.func23, Try.ntmps23
    go_wp2_with fail
    refine Hhtr.out.mono ?_
    rintro e w ⟨rfl, rfl⟩
    go_wp2_with fail
    go_loopw [3, 10] (fun l i wr => ∃ k : Nat, k ≤ 3 * T.length ∧ i = .int .i64 k ∧ wr.ownsRow w.heap.size 47 2 l (bpre T k).length (pvals (bpre T k)) ∧ Below w.heap.size w wr) (fun _ i _ => 3 * T.length - (intOf i).toNat)
    case atStart => exact ⟨0, by omega, rfl, World.ownsRow_nil _ _ _ _, Below.refl _ _⟩
    case round =>
      obtain ⟨k, hk, rfl, hown, hbel⟩ := hrel
      have hz := hbel.size
      by_cases hkl : k < 3 * T.length
      · have htab := Hh.out.below hbel hle
        have ho := Hhop.out wr htab k hkl
        have hst := bpre_step T k
        have hll := bpre_len T k
        generalize bpre T k = L at *
        cases hoc : opp T k with
        | some d =>
          rw [hoc] at ho hst
          rw [if_neg (by simp), List.append_nil] at hst
          have hd0 : ¬ (oi (some d) < 0) := by simp [oi]
          generalize oi (some d) = x at *
          have Hhown := Lib.hid hown; clear hown; have Hhtab := Lib.hid htab; clear htab; have Hho := Lib.hid ho; clear ho; have Hhst := Lib.hid hst; clear hst; have Hhoc := Lib.hid hoc; clear hoc
          go_wp2_with fail
          refine Hho.out.mono ?_
          rintro e w1 ⟨rfl, hb1⟩
          have hown1 := own_below Hhown.out hb1 (Nat.le_refl _)
          have Hhown1 := Lib.hid hown1; clear hown1
          go_wp2_with fail
          exact ⟨⟨k + 1, by omega, by simp, by rw [Hhst.out]; exact Hhown1.out, hbel.trans (hb1.mono hz)⟩, by simp [intOf]; omega⟩
        | none =>
          rw [hoc] at ho hst
          rw [if_pos rfl] at hst
          have hd0 : oi none < 0 := by simp [oi]
          generalize oi none = x at *
          have Hhown := Lib.hid hown; clear hown; have Hhtab := Lib.hid htab; clear htab; have Hho := Lib.hid ho; clear ho; have Hhst := Lib.hid hst; clear hst; have Hhoc := Lib.hid hoc; clear hoc
          go_wp2_with fail
          refine Hho.out.mono ?_
          rintro e w1 ⟨rfl, hb1⟩
          have hown1 := own_below Hhown.out hb1 (Nat.le_refl _)
          have hbel1 := hbel.trans (hb1.mono hz)
          have hz1 := hbel1.size
          have he := Hhed.out w1 (Hh.out.below hbel1 hle) k hkl
          have hst := Hhst.out
          generalize eg T k = ed at *
          obtain ⟨x1, x2⟩ := ed
          simp only [] at he
          have Hhown1 := Lib.hid hown1; clear hown1; have Hhe := Lib.hid he; clear he; have Hhst := Lib.hid hst; clear hst
          go_wp2_with fail
          refine Hhe.out.mono ?_
          rintro e w2 ⟨rfl, hb2⟩
          have hown2 := own_below Hhown1.out hb2 (Nat.le_refl _)
          have hbel2 := hbel1.trans (hb2.mono hz1)
          have hz2 := hbel2.size
          have Hhown2 := Lib.hid hown2; clear hown2
          go_wp2_with (at_builtin; refine append_block _ rfl (.tmp 17) (.tmp 21) 68 rfl w.heap.size info_edge Try.underlying68 rfl (by decide) _ L.length (pvals L) rfl (Hhown2.out.alloc _) w2.heap.size [.int .i64 x1, .int .i64 x2] rfl (Bk.new _ _ _) rfl (by simp [Value.oneCell']) (by omega) (by omega) (by simp; omega) ?_; intro v1 w5 hown5 hb5 _ _; have Hhown5 := Lib.hid hown5; clear hown5)
          exact ⟨⟨k + 1, by omega, by simp, by rw [Hhst.out, pvals_snoc, List.length_append]; exact Hhown5.out, (hbel2.alloc hz2 _).trans hb5⟩, by simp [intOf]; omega⟩
      · obtain rfl : k = 3 * T.length := by omega
        rw [Hhfin.out] at hown
        have Hhown := Lib.hid hown; clear hown
        go_wp2_with fail
        go_ret
        exact ⟨⟨_, rfl, Hhown.out⟩, hbel⟩

end Go.Proofs.Ytpbdcppaiafbgaa

namespace Go.Mesh
/-- The map of the first k edges. -/
def bmap (L : List (Int × Int)) : List (Int × Int) := L.foldl (fun m e => Words.put m e.2 e.1) []
theorem bmap_snoc (L : List (Int × Int)) (e : Int × Int) : bmap (L ++ [e]) = Words.put (bmap L) e.2 e.1 := by unfold bmap; rw [List.foldl_append]; rfl
theorem bmap_look : ∀ (k : Nat) (L : List (Int × Int)), (L.map (·.2)).Nodup → k ≤ L.length → ∀ x, Words.look (bmap (L.take k)) x = ((L.take k).find? fun e => e.2 == x).map (·.1)
  | 0, L, _, _, x => by simp [bmap, Words.look]
  | k + 1, L, hn, hk, x => by
    have ih := bmap_look k L hn (by omega) x
    rw [List.take_succ_eq_append_getElem (by omega), bmap_snoc, Words.look_put, List.find?_append, ih]
    by_cases he : (L[k]'(by omega)).2 = x
    · rw [if_pos he]
      have hnone : (L.take k).find? (fun e => e.2 == x) = none := by
        rw [List.find?_eq_none]
        intro e hm hex
        have hex : e.2 = x := by simpa using hex
        obtain ⟨j, hj, rfl⟩ := List.getElem_of_mem hm
        rw [List.getElem_take] at hex
        have hj2 : j < k := by rw [List.length_take] at hj; omega
        have h1 : (L.map (·.2))[j]'(by rw [List.length_map]; omega) = (L.map (·.2))[k]'(by rw [List.length_map]; omega) := by
          rw [List.getElem_map, List.getElem_map, hex, he]
        have := (List.getElem_inj hn).1 h1
        omega
      rw [hnone]
      simp [he]
    · rw [if_neg he]
      have : ([L[k]'(by omega)] : List (Int × Int)).find? (fun e => e.2 == x) = none := by simp [he]
      rw [this, Option.or_none]
theorem Surf.bedges_nodup {N : Int} {T : List T3} (h : Surf N T) : ((bedges T).map (·.2)).Nodup := by
  unfold bedges
  rw [List.map_map]
  exact nodup_inj (bord_nodup T) fun a ha b hb e => h.edge_out (mem_bord.1 ha).1 (mem_bord.1 hb).1 (mem_bord.1 ha).2 (mem_bord.1 hb).2 e
theorem Surf.bmap_all {N : Int} {T : List T3} (h : Surf N T) (x : Int) : Words.look (bmap (bedges T)) x = aftV T x := by
  have := bmap_look (bedges T).length (bedges T) h.bedges_nodup (Nat.le_refl _) x
  rw [List.take_length] at this
  exact this
end Go.Mesh
namespace Go.Proofs.Ytpbdcppaiafbgaa
open Go Go.RowKit Go.Words Go.Mesh

set_option maxRecDepth 20000 in
set_option maxHeartbeats 1000000 in
theorem bbehind_calls {w : World} {B : Nat} {tv : Value} {N : Int} {T : List T3} (h : TabN w B tv N T) (hs : Surf N T) :
    Calls Try.prog 35 #[tv] w fun e w' => (∃ gm, e = .returned (.map (some gm)) ∧ w.heap.size ≤ gm ∧ Mp enc1 I64 enc1 w' gm (bmap (bedges T))) ∧ Below w.heap.size w w' := by
  have hnew : Mp enc1 I64 enc1 (w.alloc (.map #[] 0)) w.heap.size (bmap []) := Mp.new w
  have hb1 := (Below.refl w.heap.size w).alloc (Nat.le_refl _) (.map #[] 0)
  have he := bedges_calls (h.below hb1 h.le) hs
  have hrng : ∀ e ∈ bedges T, I64 e.1 ∧ I64 e.2 := fun e he => by
    obtain ⟨c, h1, _, rfl⟩ := mem_bedges.1 he
    have r1 := hs.rng _ (nx_lt h1)
    have r2 := hs.rng _ (pv_lt h1)
    have := hs.nmax
    unfold I64 eg
    simp only
    omega
  have hlen : (bedges T).length ≤ 24576 := by have := bord_len T; have := hs.tmax; unfold bedges; rw [List.length_map]; omega
  obtain ⟨t, rfl⟩ := h.form
  have hz0 : (w.alloc (.map #[] 0)).heap.size = w.heap.size + 1 := by simp
  generalize bedges T = L at *
  generalize hw0 : w.alloc (.map #[] 0) = w0 at *
  have hmm := @run_makeMap Try.prog
  have Hh := Lib.hid h; clear h; have Hhs := Lib.hid hs; clear hs; have Hhnew := Lib.hid hnew; clear hnew; have Hhe := Lib.hid he; clear he; have Hhrng := Lib.hid hrng; clear hrng
  go_enter Try.func35, Try.ntmps35
  go_wp2_with fail
  clear hw0 hmm
  refine Hhe.out.mono ?_
  rintro e w1 ⟨⟨r, rfl, hown⟩, hb2⟩
  obtain ⟨A, cap, rfl, hcap⟩ := own_form hown
  have hz1 := hb2.size
  have hbel1 := hb1.trans (hb2.mono (by omega))
  have hmp := Hhnew.out.below hb2 (by omega)
  have hsl := sl_own_pairs hown
  have hsl : Sl 2 RPair w1 w1.heap.size (.slice A L.length cap) L := hsl
  have hlast : ∀ j, some j = (Value.slice A L.length cap).ownBlock → w0.heap.size ≤ j := fun j hj => (hown.lt j hj.symm).1
  have Hhown := Lib.hid hown; clear hown; have Hhsl := Lib.hid hsl; clear hsl; have Hhmp := Lib.hid hmp; clear hmp; have Hhlast := Lib.hid hlast; clear hlast
  go_wp2_with fail
  go_loopw [10] (fun i wr => ∃ k : Nat, k ≤ L.length ∧ i = .int .i64 k ∧ Mp enc1 I64 enc1 wr w.heap.size (bmap (L.take k)) ∧ Below w.heap.size w wr ∧ wr.ownsRow w0.heap.size 47 2 (.slice A L.length cap) L.length (pvals L)) (fun i _ => L.length - (intOf i).toNat)
  case atStart => exact ⟨0, by omega, rfl, Hhmp.out, hbel1, Hhown.out⟩
  case round =>
    obtain ⟨k, hk, rfl, hmr, hbel, hownr⟩ := hrel
    have hz := hbel.size
    have hml := hmr.lt
    by_cases hkl : k < L.length
    · obtain ⟨b, o, rfl, hb, a1, a2⟩ := (sl_own_pairs hownr).pair_at hkl
      have hbw : b < wr.heap.size := by omega
      have htk := List.take_succ_eq_append_getElem hkl
      have hr := Hhrng.out _ (List.getElem_mem hkl)
      generalize L[k] = ed at *
      obtain ⟨x1, x2⟩ := ed
      simp only [] at a1 a2
      obtain ⟨r1, r2⟩ := hr
      have hbA := hbel.alloc hz (.cells #[.int .i64 x1, .int .i64 x2] 47)
      have hmA := hmr.alloc (.cells #[.int .i64 x1, .int .i64 x2] 47)
      have hoA := hownr.alloc (.cells #[.int .i64 x1, .int .i64 x2] 47)
      have hst : bmap (L.take (k + 1)) = put (bmap (L.take k)) x2 x1 := by rw [htk, bmap_snoc]
      have Hhmr := Lib.hid hmr; clear hmr; have Hhownr := Lib.hid hownr; clear hownr; have Hhtk := Lib.hid htk; clear htk; have Hr1 := Lib.hid r1; clear r1; have Hr2 := Lib.hid r2; clear r2; have HhmA := Lib.hid hmA; clear hmA; have HhoA := Lib.hid hoA; clear hoA; have Hhst := Lib.hid hst; clear hst
      go_wp2_with (at_mapUpdate; refine wpList_put _ rfl _ _ _ 73 rfl 3 3 keyI Try.underlying73 w.heap.size (bmap (L.take k)) rfl HhmA.out x2 rfl Hr2.out x1 rfl ?_; intro w2 hmp2 hgr2 hsz2; have Hhmp2 := Lib.hid hmp2; clear hmp2; have Hhgr2 := Lib.hid hgr2; clear hgr2; clear hsz2)
      have hb3 := hbA.grown Hhgr2.out hbA.size (fun q hq => by cases hq; omega)
      refine ⟨⟨k + 1, by omega, by simp, by rw [Hhst.out]; exact Hhmp2.out, hb3, HhoA.out.kept Hhgr2.out (.inr ?_)⟩, by simp [intOf]; omega⟩
      exact (HhmA.out.no_row HhoA.out).symm
    · obtain rfl : k = L.length := by omega
      rw [List.take_length] at hmr
      have Hhmr := Lib.hid hmr; clear hmr; have Hhownr := Lib.hid hownr; clear hownr
      go_wp2_with fail
      go_ret
      exact ⟨⟨_, rfl, Nat.le_refl _, Hhmr.out⟩, hbel⟩

/-- What Table hands back. -/
def Tabled12 (w : World) (N : Int) (T : List T3) (e : Ending) (w' : World) : Prop :=
  (∃ pv B', e = .returned pv ∧ ((T.length ≤ 40 ∧ Surf N T ∧ Tab w' B' pv N T) ∨ (¬ (T.length ≤ 40 ∧ Surf N T) ∧ pv = .pointer none))) ∧ Below w.heap.size w w'
set_option maxRecDepth 20000 in
theorem table12_calls {w : World} {B : Nat} {sv : Value} {N : Int} {T : List T3} (hT : Sl 3 RTri w B sv T) (hB0 : B ≤ w.heap.size) (hN : I64 N) :
    Calls Try.prog 5 #[.agg #[.int .i64 N, sv]] w (Tabled12 w N T) := by
  obtain ⟨A, cap, rfl, hcap⟩ := hT.form
  have hb1 := (Below.refl w.heap.size w).alloc (Nat.le_refl _) (.cells #[.int .i64 N, .slice A T.length cap] 24)
  have hbox := Bk.new w 24 [.int .i64 N, .slice A T.length cap]
  have c0 := hbox.cell 0
  have c1 := hbox.cell 1
  simp only [List.getElem?_cons_zero, List.getElem?_cons_succ] at c0 c1
  have hTA := hT.below keeps_tri (hb1.mono hB0)
  have hle : B ≤ (w.alloc (.cells #[.int .i64 N, .slice A T.length cap] 24)).heap.size := by rw [World.size_alloc]; omega
  have hz0 : w.heap.size < (w.alloc (.cells #[.int .i64 N, .slice A T.length cap] 24)).heap.size := by rw [World.size_alloc]; omega
  generalize hw0 : w.alloc (.cells #[.int .i64 N, .slice A T.length cap] 24) = w0 at *
  by_cases h40 : T.length ≤ 40
  · have hsu := surface9_calls (.slice A T.length cap) N T w0 hle hTA (by omega)
    have hnew := fun wz (hz : Sl 3 RTri wz B (.slice A T.length cap) T) (hz2 : B ≤ wz.heap.size) => new_calls (.slice A T.length cap) N T wz (B := B) hz2 hz hN
    have HhT := Lib.hid hT; have HhTA := Lib.hid hTA; have Hhbox := Lib.hid hbox; have Hhsu := Lib.hid hsu; have Hhnew := Lib.hid hnew; clear hT hTA hbox hsu hnew
    go_enter Try.func5, Try.ntmps5
    go_wp2_with fail
    all_goals first | (exfalso; omega) | skip
    clear hw0
    refine Hhsu.out.mono ?_
    rintro e w1 ⟨⟨b, rfl, hb⟩, hb2⟩
    have hz1 := hb2.size
    have hb3 := hb1.trans (hb2.mono hb1.size)
    cases b with
    | false =>
      have hn : ¬ Surf N T := fun h => by have := hb.2 h; cases this
      have Hhb := Lib.hid hb; have Hhn := Lib.hid hn; clear hb hn
      go_wp2_with fail
      go_ret
      exact ⟨⟨_, 0, rfl, .inr ⟨fun h9 => Hhn.out h9.2, rfl⟩⟩, hb3⟩
    | true =>
      have d0 := (hb2.cell (p := ⟨w.heap.size, 0, none⟩) hz0).trans c0
      have d1 := (hb2.cell (p := ⟨w.heap.size, 1, none⟩) hz0).trans c1
      have hnw := Hhnew.out w1 (HhTA.out.below keeps_tri (hb2.mono hle)) (by omega)
      have hsT := hb.1 rfl
      have Hhb := Lib.hid hb; have Hhnw := Lib.hid hnw; have HhsT := Lib.hid hsT; clear hb hnw hsT
      go_wp2_with fail
      refine Hhnw.out.mono ?_
      rintro e w2 ⟨⟨pv, x, y, z, rfl, hor⟩, hb4⟩
      have hb5 := hb3.trans (hb4.mono hb3.size)
      rcases hor with ⟨hs, htab⟩ | ⟨hns, rfl⟩
      · obtain ⟨t, rfl⟩ : ∃ t, pv = .pointer t := by
          obtain ⟨g, _, _, _, _, _, rfl, _⟩ := htab
          exact ⟨_, rfl⟩
        have hle2 := htab.le
        have htb := htab.below ((Below.refl w2.heap.size w2).alloc (Nat.le_refl _) (.cells #[.int .i64 x, .int .i64 y, .int .i64 z] 53)) hle2
        have hb6 := hb5.alloc hb5.size (.cells #[.int .i64 x, .int .i64 y, .int .i64 z] 53)
        have Hhtab := Lib.hid htab; have Hhs := Lib.hid hs; have Hhtb := Lib.hid htb; clear htab hs htb
        go_wp2_with fail
        go_ret
        exact ⟨⟨_, w2.heap.size, rfl, .inl ⟨h40, Hhs.out, Hhtb.out⟩⟩, hb6⟩
      · exact absurd HhsT.out hns
  · have h3 : 40 < (T.length : Int) := by omega
    have hn : ¬ (T.length ≤ 40 ∧ Surf N T) := fun h => h40 h.1
    clear h40
    have HhT := Lib.hid hT; have HhTA := Lib.hid hTA; have Hhbox := Lib.hid hbox; have Hhn := Lib.hid hn; clear hT hTA hbox hn
    go_enter Try.func5, Try.ntmps5
    go_wp2_with fail
    go_ret
    exact ⟨⟨_, 0, rfl, .inr ⟨Hhn.out, rfl⟩⟩, hb1⟩
end Go.Proofs.Ytpbdcppaiafbgaa

namespace Go.Words
open Go Go.RowKit Go.Maps Go.MapKept Go.ChangeMaps
section
variable {F : Fence} {nF : Nat} {P : Program} (w : World) {ops : Array Oper} {rest : List Oper} {o : Oper} {a : Act} {Q : Exit → Act → World → Prop}
variable {κ α : Type} [DecidableEq κ] {enc : κ → Value} {ok : κ → Prop} {ev : α → Value}

theorem wpListIn_look (hg : o.guard = none) (m x : Operand) (t : TypeId) (hop : o.op = Op.lookup t m x false) (k e : TypeId) (K : KeyT P k enc ok) (ht : P.underlying t = some (.map k e)) {z : Value} (hz : ∀ w, (zeroValue e).run P w = .ok z w)
    (b : Nat) (l : List (κ × α)) (hm : a.eval m = .map (some b)) (hown : Mp enc ok ev w b l) (key : κ) (hx : a.eval x = enc key) (hkey : ok key)
    (hK : wpListIn F nF P ops Q rest (a.put o.dst (((look l key).map ev).getD z)) w) : wpListIn F nF P ops Q (o :: rest) a w := by
  refine wpListIn_plain hg fun K' hK' => ?_
  have hrun := hown.look_run K ht (hz w) hkey false
  unfold Oper.wpIn
  refine ⟨by simp [Oper.about, hop], ?_⟩
  rw [Oper.semAt_plain F _ _ (by rw [hop]; intro c hc'; cases hc')]
  simp [execOp, hop, hm, hx, hrun, Result.andThen]
  exact hK' _ _ hK
theorem wpListIn_look_ok (hg : o.guard = none) (m x : Operand) (t : TypeId) (hop : o.op = Op.lookup t m x true) (k e : TypeId) (K : KeyT P k enc ok) (ht : P.underlying t = some (.map k e)) {z : Value} (hz : ∀ w, (zeroValue e).run P w = .ok z w)
    (b : Nat) (l : List (κ × α)) (hm : a.eval m = .map (some b)) (hown : Mp enc ok ev w b l) (key : κ) (hx : a.eval x = enc key) (hkey : ok key)
    (hK : wpListIn F nF P ops Q rest (a.put o.dst (.tuple #[((look l key).map ev).getD z, .bool (look l key).isSome])) w) : wpListIn F nF P ops Q (o :: rest) a w := by
  refine wpListIn_plain hg fun K' hK' => ?_
  have hrun := hown.look_run K ht (hz w) hkey true
  unfold Oper.wpIn
  refine ⟨by simp [Oper.about, hop], ?_⟩
  rw [Oper.semAt_plain F _ _ (by rw [hop]; intro c hc'; cases hc')]
  simp [execOp, hop, hm, hx, hrun, Result.andThen]
  exact hK' _ _ hK
theorem wpListIn_put (hg : o.guard = none) (m x v : Operand) (t : TypeId) (hop : o.op = Op.mapUpdate t m x v) (k e : TypeId) (K : KeyT P k enc ok) (ht : P.underlying t = some (.map k e))
    (b : Nat) (l : List (κ × α)) (hm : a.eval m = .map (some b)) (hown : Mp enc ok ev w b l) (key : κ) (hx : a.eval x = enc key) (hkey : ok key) (val : α) (hv : a.eval v = ev val)
    (hK : ∀ w', Mp enc ok ev w' b (put l key val) → w.grownBy w' (some b) → w'.heap.size = w.heap.size → wpListIn F nF P ops Q rest (a.put o.dst undef) w') : wpListIn F nF P ops Q (o :: rest) a w := by
  refine wpListIn_plain hg fun K' hK' => ?_
  obtain ⟨w', hrun, r1, r2, r3⟩ := hown.put_run K ht hkey val
  unfold Oper.wpIn
  refine ⟨by simp [Oper.about, hop], ?_⟩
  rw [Oper.semAt_plain F _ _ (by rw [hop]; intro c hc'; cases hc')]
  simp [execOp, hop, hm, hx, hv, hrun, Result.andThen]
  exact hK' _ _ (hK w' r1 r2 r3)
end
end Go.Words

namespace Go.Mesh
section
variable {N : Int} {T : List T3}
theorem loopAt_none {v : Int} (h : aftV T v = none) : loopAt T N v = [] := by unfold loopAt; rw [h]; rfl
/-- How much of a loop is left. -/
def restOf (L : List Nat) (vn : Nat) (x : Int) : Nat := if x = (vn : Int) then 0 else L.length - L.idxOf x.toNat
/-- A loop's facts: it begins at its vertex; each goes on to the next, and the last to the first. -/
structure BLoop (T : List T3) (N : Int) (v : Int) (L : List Nat) : Prop where
  ne : 0 < L.length
  head : (L[0]? : Option Nat) = some v.toNat
  nodup : L.Nodup
  lt : ∀ x ∈ L, (x : Int) < N
  step : ∀ (i x y : Nat), L[i]? = some x → L[i + 1]? = some y → aftV T (x : Int) = some (y : Int)
  last : ∀ x : Nat, L[L.length - 1]? = some x → aftV T (x : Int) = some v
theorem Surf.loop_is (h : Surf N T) {v a : Int} (ha : aftV T v = some a) : BLoop T N v (loopAt T N v) := by
  have hr := h.aftV_rng ha
  have hL : loopAt T N v = runF (bf T) v.toNat N.toNat v.toNat := by unfold loopAt; rw [ha]; rfl
  have hv : ((v.toNat : Nat) : Int) = v := Int.toNat_of_nonneg hr.1.1
  have hx : bf T v.toNat = some a.toNat := h.bf_iff.2 (by rw [hv, ha, Int.toNat_of_nonneg hr.2.1])
  have hrun := h.loop_run hx
  obtain ⟨_, hl0, hlast⟩ := h.loop_all hx
  rw [hL]
  have hl9 : ∀ x : Nat, (runF (bf T) v.toNat N.toNat v.toNat)[(runF (bf T) v.toNat N.toNat v.toNat).length - 1]? = some x → bf T x = some v.toNat := fun x hx => by
    obtain ⟨_, rfl⟩ := List.getElem?_eq_some_iff.1 hx
    exact hlast
  clear hlast hL
  generalize runF (bf T) v.toNat N.toNat v.toNat = L at *
  exact {
    ne := hrun.ne
    head := by rw [List.getElem?_eq_getElem hrun.ne, hrun.head]
    nodup := hrun.nodup
    lt := fun x hx => by have := hrun.lt x hx; omega
    step := fun i x y h1 h2 => by
      obtain ⟨g1, rfl⟩ := List.getElem?_eq_some_iff.1 h1
      obtain ⟨g2, rfl⟩ := List.getElem?_eq_some_iff.1 h2
      exact h.bf_iff.1 (hrun.steps i g2)
    last := fun x hx => by
      have := h.bf_iff.1 (hl9 x hx)
      rw [hv] at this
      exact this }
end
end Go.Mesh
namespace Go.Proofs.Ytpbdcppaiafbgaa
open Go Go.RowKit Go.Words Go.Mesh
attribute [local go_sem] Oper.semAt_some

/-- What a round must keep: the walk's maps, and the box of its vertex. -/
def KeepM (n₁ Bv : Nat) (W W' : World) : Prop := W.heap.size ≤ W'.heap.size ∧ W'.cell? ⟨Bv, 0, none⟩ = W.cell? ⟨Bv, 0, none⟩ ∧ ∀ k o, n₁ ≤ k → W.heap[k]? = some o → o.isWalk = true → W'.heap[k]? = some o
theorem keepM_t {n₁ Bv : Nat} {A B C : World} (h : KeepM n₁ Bv A B) (k : KeepM n₁ Bv B C) : KeepM n₁ Bv A C := ⟨Nat.le_trans h.1 k.1, k.2.1.trans h.2.1, fun i o hi ho hw => k.2.2 i o hi (h.2.2 i o hi ho hw) hw⟩
theorem keepM_b {n₁ Bv : Nat} {w : World} (hBv : Bv < w.heap.size) (W : World) (l : Nat) (o o' : Obj) (hl : w.heap.size ≤ l) (h : W.heap[l]? = some o) (_ : o.isCells = false) (h2 : o.isWalk = false) : KeepM n₁ Bv W (W.putObj l o') := by
  refine ⟨(grownBy_putObj' W l o').size, by unfold World.cell?; rw [World.putObj_heap_other (by simp only; omega)], fun k ob hk hob hw => ?_⟩
  by_cases hkl : k = l
  · subst hkl
    rw [h] at hob
    cases hob
    rw [h2] at hw
    cases hw
  · rw [World.putObj_heap_other hkl]
    exact hob
theorem mp_keepM {κ α : Type} {enc : κ → Value} {ok : κ → Prop} {ev : α → Value} {W W' : World} {n₁ Bv b : Nat} {l : List (κ × α)} (h : Mp enc ok ev W b l) (hk : KeepM n₁ Bv W W') (hb : n₁ ≤ b) : Mp enc ok ev W' b l := by
  refine h.keep ?_
  obtain ⟨es, clock, h1, h2⟩ := h.block
  rw [h1]
  exact hk.2.2 b _ hb h1 rfl

set_option maxRecDepth 20000 in
set_option maxHeartbeats 2000000 in
theorem bwalk1_in (n : Nat) (hn : 1 ≤ n) (l Bt Bv n₁ B : Nat) (tv : Value) (N : Int) (T : List T3) (v : Int) (hv9 : I64 v) (hs : Surf N T) (J Jx : List Nat → World → Prop)
    (hY : ∀ pre (x : Nat) W, x < 4096 → J pre W → pre.length < N.toNat → YieldAt Fence.wide (n - 1) Try.prog l #[.int .i64 (x : Int)] W fun e W' =>
      (e = .returned (.bool true) ∧ J (pre ++ [x]) W' ∧ KeepM n₁ Bv W W') ∨ (e = .returned (.bool false) ∧ Jx (pre ++ [x]) W'))
    (W : World) (hn1 : n₁ ≤ W.heap.size) (hBv : Bv < W.heap.size) (hJ : AbidesFrom W.heap.size J) (ht : W.cell? ⟨Bt, 0, none⟩ = some tv) (hv : W.cell? ⟨Bv, 0, none⟩ = some (.int .i64 v)) (htab : TabN W B tv N T) (h0 : J [] W) :
    CallsIn Fence.wide n Try.prog 34 #[.func (.yield l) #[] #[], .pointer (some ⟨Bt, 0, none⟩), .pointer (some ⟨Bv, 0, none⟩)] W fun e W' => (∃ v, e = .returned v) ∧
      ((∃ ys : List Nat, ys = loopAt T N v ∧ J ys W') ∨ (∃ pre : List Nat, pre <+: loopAt T N v ∧ Jx pre W')) := by
  have hbh := bbehind_calls htab hs
  have hlook := hs.bmap_all
  have hloop := fun a (ha : aftV T v = some a) => hs.loop_is ha
  have hnone : aftV T v = none → loopAt T N v = [] := loopAt_none
  have hrange := fun a (ha : aftV T v = some a) => hs.aftV_rng ha
  obtain ⟨t, rfl⟩ := htab.form
  refine callsIn_of_wp Try.func34 rfl trivial ?_ rfl
  simp only [Try.ntmps34, List.size_toArray, List.length_cons, List.length_nil, Nat.reduceAdd, Nat.reduceSub, Array.replicate_succ, Array.replicate_zero, List.push_toArray, List.append_toArray, List.nil_append, List.cons_append]
  generalize bmap (bedges T) = m at *
  generalize loopAt T N v = L at *
  have hlv := hlook v
  have Hhbh := Lib.hid hbh; clear hbh; have Hhlook := Lib.hid hlook; clear hlook; have Hhloop := Lib.hid hloop; clear hloop; have Hhnone := Lib.hid hnone; clear hnone; have Hhrange := Lib.hid hrange; clear hrange; have Hhtab := Lib.hid htab; clear htab; have HhY := Lib.hid hY; clear hY; have HhJ := Lib.hid hJ; clear hJ; have Hhlv := Lib.hid hlv; clear hlv
  gi_wp2_with fail
  refine ⟨trivial, (callsIn_wide.2 Hhbh.out).mono ?_⟩
  rintro e w1 ⟨⟨gm, rfl, hgm, hmp⟩, hb1⟩
  have hv1 := (hb1.cell (p := ⟨Bv, 0, none⟩) hBv).trans hv
  have hJ1 := abides_below HhJ.out h0 hb1
  have hz1 := hb1.size
  cases haf : aftV T v with
  | none =>
    have hln := Hhnone.out haf
    have hlv := Hhlv.out
    rw [haf] at hlv
    have Hhmp := Lib.hid hmp; clear hmp; have HhJ1 := Lib.hid hJ1; clear hJ1; have Hhln := Lib.hid hln; clear hln; have Hhaf := Lib.hid haf; clear haf
    gi_wp2_with (refine wpListIn_look_ok _ rfl _ _ 73 rfl 3 3 keyI Try.underlying73 zero_int gm m rfl Hhmp.out v rfl hv9 ?_; rw [hlv, show (((none : Option Int).map enc1).getD (.int .i64 0)) = .int .i64 0 from rfl, show (none : Option Int).isSome = false from rfl])
    refine ⟨fun f h => (by cases h), ?_⟩
    gi_wp2_with fail
    refine bodyPost_ret (results_none rfl _ _ _) rfl ?_
    exact ⟨⟨_, rfl⟩, .inl ⟨[], Hhln.out.symm, HhJ1.out⟩⟩
  | some a =>
    have hlp := Hhloop.out a haf
    have hrg := Hhrange.out a haf
    have hlv := Hhlv.out
    rw [haf] at hlv
    obtain ⟨vn, rfl⟩ : ∃ vn : Nat, v = (vn : Int) := ⟨v.toNat, by have := hrg.1; omega⟩
    obtain ⟨an, rfl⟩ : ∃ an : Nat, a = (an : Int) := ⟨a.toNat, by have := hrg.2; omega⟩
    have hlen : L.length ≤ N.toNat := nodup_lt _ _ hlp.nodup fun x hx => by have := hlp.lt x hx; omega
    have hlp0 := hlp.ne
    have hhd := hlp.head
    rw [Int.toNat_natCast] at hhd
    obtain ⟨fn, tmps, assign, body, hy, hR⟩ := HhY.out [] vn w1 (by have := hrg.1; have := hs.nmax; omega) hJ1 (by simp; omega)
    have Hhmp := Lib.hid hmp; clear hmp; have HhJ1 := Lib.hid hJ1; clear hJ1; have Hhaf := Lib.hid haf; clear haf; have Hhlp := Lib.hid hlp; clear hlp; have Hhrg := Lib.hid hrg; clear hrg; have HhR := Lib.hid hR; clear hR; have Hhhd := Lib.hid hhd; clear hhd
    gi_wp2_with (refine wpListIn_look_ok _ rfl _ _ 73 rfl 3 3 keyI Try.underlying73 zero_int gm m rfl Hhmp.out (vn : Int) rfl hv9 ?_; rw [hlv, show (((some (an : Int)).map enc1).getD (.int .i64 0)) = .int .i64 (an : Int) from rfl])
    refine HhR.out.mono ?_
    rintro e W2 (⟨rfl, hJ2, hk2⟩ | ⟨rfl, hJx2⟩)
    case inr =>
      gi_wp2_with fail
      refine bodyPost_ret (results_none rfl _ _ _) rfl ?_
      refine ⟨⟨_, rfl⟩, .inr ⟨[vn], ?_, hJx2⟩⟩
      have h9 := Hhhd.out
      obtain ⟨x, L', hxl⟩ : ∃ x L', L = x :: L' := by
        cases L with
        | nil => simp at hlp0
        | cons x L' => exact ⟨x, L', rfl⟩
      rw [hxl] at h9 ⊢
      have : x = vn := by simpa using h9
      rw [this]
      exact ⟨L', rfl⟩
    case inl =>
      have hm2 := mp_keepM Hhmp.out hk2 (Nat.le_trans hn1 hgm)
      have hv2 := hk2.2.1.trans hv1
      have hz2 := hk2.1
      have hJ2 : J (L.take 1) W2 := by
        have h9 := Hhhd.out
        rw [List.take_succ_eq_append_getElem hlp0]
        have : L[0] = vn := by
          rw [List.getElem?_eq_getElem hlp0] at h9
          exact Option.some.inj h9
        rw [this]
        exact hJ2
      have hnext : ∀ i, 1 ≤ i → i ≤ L.length → ∃ x : Nat, (L ++ [vn])[i]? = some x ∧ (i < L.length → L[i]? = some x ∧ x ≠ vn) ∧ (i = L.length → x = vn) := fun i h1 h2 => by
        by_cases hi : i < L.length
        · obtain ⟨x, hx⟩ : ∃ x, L[i]? = some x := ⟨_, List.getElem?_eq_getElem hi⟩
          refine ⟨x, by rw [List.getElem?_append_left hi]; exact hx, fun _ => ⟨hx, fun e => ?_⟩, fun h => by omega⟩
          have h9 := Hhhd.out
          obtain ⟨g1, g2⟩ := List.getElem?_eq_some_iff.1 hx
          obtain ⟨g3, g4⟩ := List.getElem?_eq_some_iff.1 h9
          have := (List.getElem_inj Hhlp.out.nodup).1 (g2.trans (e.trans g4.symm))
          omega
        · have : i = L.length := by omega
          subst this
          exact ⟨vn, by simp, fun h => absurd h hi, fun _ => rfl⟩
      have hstep : ∀ i (x y : Nat), (L ++ [vn])[i]? = some x → i < L.length → (L ++ [vn])[i + 1]? = some y → aftV T (x : Int) = some (y : Int) := fun i x y hx hi hy => by
        rw [List.getElem?_append_left hi] at hx
        by_cases hi1 : i + 1 < L.length
        · rw [List.getElem?_append_left hi1] at hy
          exact Hhlp.out.step i x y hx hy
        · have : i + 1 = L.length := by omega
          rw [this] at hy
          have : y = vn := by simpa using hy.symm
          rw [this]
          exact Hhlp.out.last x (by rw [← hx]; congr 1; omega)
      have han : (L ++ [vn])[1]? = some an := by
        obtain ⟨x, hx, _⟩ := hnext 1 (by omega) (by omega)
        have := hstep 0 vn x (by rw [List.getElem?_append_left hlp0]; exact Hhhd.out) hlp0 hx
        rw [Hhaf.out] at this
        rw [hx]
        congr 1
        have := Option.some.inj this
        omega
      have HhJ2 := Lib.hid hJ2; clear hJ2; have Hhm2 := Lib.hid hm2; clear hm2; have Hhnext := Lib.hid hnext; clear hnext; have Hhstep := Lib.hid hstep; clear hstep; have Hhan := Lib.hid han; clear han
      gi_wp2_with fail
      gi_loopw [5] (fun x wr => ∃ i y : Nat, 1 ≤ i ∧ i ≤ L.length ∧ x = .int .i64 (y : Int) ∧ (L ++ [vn])[i]? = some y ∧ J (L.take i) wr ∧ Mp enc1 I64 enc1 wr gm m ∧ wr.cell? ⟨Bv, 0, none⟩ = some (.int .i64 (vn : Int)) ∧ w1.heap.size ≤ wr.heap.size) (fun x _ => restOf L vn (intOf x))
      case atStart => exact ⟨1, an, by omega, by omega, rfl, Hhan.out, HhJ2.out, Hhm2.out, hv2, hz2⟩
      case round =>
        obtain ⟨i, y, hi1, hi, rfl, hy9, hJr, hmr, hvr, hszr⟩ := hrel
        obtain ⟨y', hy', hlt, heq⟩ := Hhnext.out i hi1 hi
        rw [hy9] at hy'
        obtain rfl := Option.some.inj hy'
        by_cases hil : i < L.length
        case neg =>
          have hil : i = L.length := by omega
          subst hil
          obtain rfl := heq rfl
          rw [List.take_length] at hJr
          have Hhlt := Lib.hid hlt; clear hlt; have Hheq := Lib.hid heq; clear heq; have HhJr := Lib.hid hJr; clear hJr; have Hhmr := Lib.hid hmr; clear hmr; have Hhy9 := Lib.hid hy9; clear hy9
          gi_wp2_with fail
          go_end0
          exact ⟨⟨_, rfl⟩, .inl HhJr.out⟩
        case pos =>
          obtain ⟨hLy, hne⟩ := hlt hil
          have hne' : (y : Int) ≠ (vn : Int) := by omega
          obtain ⟨g1, g2⟩ := List.getElem?_eq_some_iff.1 hLy
          have htk : L.take (i + 1) = L.take i ++ [y] := by rw [List.take_succ_eq_append_getElem g1, g2]
          have hidx : L.idxOf y = i := by rw [← g2]; exact Hhlp.out.nodup.idxOf_getElem i g1
          have hyr := Hhlp.out.lt y (List.mem_of_getElem? hLy)
          have hyI : I64 (y : Int) := by
            have := hs.nmax
            unfold I64
            omega
          obtain ⟨z, hz, hzlt, hzeq⟩ := Hhnext.out (i + 1) (by omega) (by omega)
          have hly := Hhlook.out (y : Int)
          rw [Hhstep.out i y z hy9 hil hz] at hly
          have hmeas : restOf L vn (z : Int) < restOf L vn (y : Int) := by
            unfold restOf
            rw [if_neg hne', Int.toNat_natCast, Int.toNat_natCast, hidx]
            by_cases hzv : (z : Int) = (vn : Int)
            · rw [if_pos hzv]; omega
            · rw [if_neg hzv]
              by_cases h9 : i + 1 < L.length
              · obtain ⟨h8, _⟩ := hzlt h9
                obtain ⟨k1, k2⟩ := List.getElem?_eq_some_iff.1 h8
                have : L.idxOf z = i + 1 := by rw [← k2]; exact Hhlp.out.nodup.idxOf_getElem (i + 1) k1
                omega
              · have := hzeq (by omega)
                omega
          obtain ⟨fn2, tmps2, assign2, body2, hyy, hR2⟩ := HhY.out (L.take i) y wr (by have := hs.nmax; omega) hJr (by rw [List.length_take]; omega)
          clear hlt heq
          have HhJr := Lib.hid hJr; clear hJr; have Hhmr := Lib.hid hmr; clear hmr; have Hhy9 := Lib.hid hy9; clear hy9; have HhLy := Lib.hid hLy; clear hLy; have Hhtk := Lib.hid htk; clear htk; have Hhidx := Lib.hid hidx; clear hidx; have Hhly := Lib.hid hly; clear hly; have Hhmeas := Lib.hid hmeas; clear hmeas; have Hhz := Lib.hid hz; clear hz; have Hhzlt := Lib.hid hzlt; clear hzlt; have Hhzeq := Lib.hid hzeq; clear hzeq; have HhR2 := Lib.hid hR2; clear hR2; have Hg2 := Lib.hid g2; clear g2
          gi_wp2_with fail
          refine HhR2.out.mono ?_
          rintro e W3 (⟨rfl, hJ3, hk3⟩ | ⟨rfl, hJx3⟩)
          case inr =>
            gi_wp2_with fail
            refine bodyPost_ret (results_none rfl _ _ _) rfl ?_
            refine ⟨⟨_, rfl⟩, .inr ⟨L.take i ++ [y], ?_, hJx3⟩⟩
            rw [← Hhtk.out]
            exact List.take_prefix _ _
          case inl =>
            have hm3 := mp_keepM Hhmr.out hk3 (Nat.le_trans hn1 hgm)
            have hv3 := hk3.2.1.trans hvr
            have hz3 := hk3.1
            rw [← Hhtk.out] at hJ3
            have hly := Hhly.out
            have HhJ3 := Lib.hid hJ3; clear hJ3; have Hhm3 := Lib.hid hm3; clear hm3
            gi_wp2_with (refine wpListIn_look _ rfl _ _ 73 rfl 3 3 keyI Try.underlying73 zero_int gm m rfl Hhm3.out (y : Int) rfl hyI ?_; rw [hly, show (((some (z : Int)).map enc1).getD (.int .i64 0)) = .int .i64 (z : Int) from rfl])
            refine ⟨⟨i + 1, z, by omega, by omega, rfl, Hhz.out, HhJ3.out, Hhm3.out, hv3, by omega⟩, ?_⟩
            exact Hhmeas.out
end Go.Proofs.Ytpbdcppaiafbgaa

namespace Go.Proofs.Ytpbdcppaiafbgaa
open Go Go.RowKit Go.Words Go.Mesh
attribute [local go_sem] Oper.semAt_some

/-- The closure that border.Walk hands back stops as soon as a round says so. -/
theorem bwalk_stops (n : Nat) (hn : 1 ≤ n) (Bt Bv B : Nat) (tv : Value) (N : Int) (T : List T3) (v : Int) (hv9 : I64 v) (hs : Surf N T) (w : World) (hBt : Bt < w.heap.size) (hBv : Bv < w.heap.size)
    (ht : w.cell? ⟨Bt, 0, none⟩ = some tv) (hv : w.cell? ⟨Bv, 0, none⟩ = some (.int .i64 v)) (htab : TabN w B tv N T) :
    SeqStopsK Fence.wide n Try.prog 34 #[.pointer (some ⟨Bt, 0, none⟩), .pointer (some ⟨Bv, 0, none⟩)] (fun x : Nat => #[Value.int .i64 (x : Int)]) (KeepM w.heap.size Bv) (fun ys => ys = loopAt T N v) (fun pre => pre <+: loopAt T N v) N.toNat w := fun l J Jx W hW hJ _ hY h0 =>
  bwalk1_in n hn l Bt Bv w.heap.size B tv N T v hv9 hs J Jx (fun pre x W _ => hY pre x W) W hW.size (Nat.lt_of_lt_of_le hBv hW.size) hJ ((hW.cell (p := ⟨Bt, 0, none⟩) hBt).trans ht) ((hW.cell (p := ⟨Bv, 0, none⟩) hBv).trans hv) (htab.below hW htab.le) h0
/-- A vertex's number. -/
abbrev Vx := { u : Nat // u < 4096 }
/-- The same, where a round may know that it is handed a vertex. -/
theorem bwalk_stopsV (n : Nat) (hn : 1 ≤ n) (Bt Bv B : Nat) (tv : Value) (N : Int) (T : List T3) (v : Int) (hv9 : I64 v) (hs : Surf N T) (w : World) (hBt : Bt < w.heap.size) (hBv : Bv < w.heap.size)
    (ht : w.cell? ⟨Bt, 0, none⟩ = some tv) (hv : w.cell? ⟨Bv, 0, none⟩ = some (.int .i64 v)) (htab : TabN w B tv N T) :
    SeqStopsK Fence.wide n Try.prog 34 #[.pointer (some ⟨Bt, 0, none⟩), .pointer (some ⟨Bv, 0, none⟩)] (fun x : Vx => #[Value.int .i64 (x.1 : Int)]) (KeepM w.heap.size Bv) (fun ys => ys.map (·.1) = loopAt T N v) (fun pre => pre.map (·.1) <+: loopAt T N v) N.toNat w := fun l J Jx W hW hJ _ hY h0 => by
  refine (bwalk1_in n hn l Bt Bv w.heap.size B tv N T v hv9 hs (fun pre W => ∃ lv : List Vx, lv.map (·.1) = pre ∧ J lv W) (fun pre W => ∃ lv : List Vx, lv.map (·.1) = pre ∧ Jx lv W) (fun pre x W hx ⟨lv, h1, h2⟩ hl => ?_) W hW.size (Nat.lt_of_lt_of_le hBv hW.size) (fun s A B row ⟨lv, h1, h2⟩ hg hr => ⟨lv, h1, hJ lv A B row h2 hg hr⟩) ((hW.cell (p := ⟨Bt, 0, none⟩) hBt).trans ht) ((hW.cell (p := ⟨Bv, 0, none⟩) hBv).trans hv) (htab.below hW htab.le) ⟨[], rfl, h0⟩).mono ?_
  · obtain ⟨fn, tmps, assign, body, hy, hR⟩ := hY lv ⟨x, hx⟩ W h2 (by rw [← h1, List.length_map] at hl; exact hl)
    refine ⟨fn, tmps, assign, body, hy, hR.mono ?_⟩
    rintro e W' (⟨h3, h4, h5⟩ | ⟨h3, h4⟩)
    · exact .inl ⟨h3, ⟨_, by rw [List.map_append, h1]; rfl, h4⟩, h5⟩
    · exact .inr ⟨h3, ⟨_, by rw [List.map_append, h1]; rfl, h4⟩⟩
  · rintro e W' ⟨h3, (⟨ys, h4, lv, h5, h6⟩ | ⟨pre, h4, lv, h5, h6⟩)⟩
    · exact ⟨h3, .inl ⟨lv, h5.trans h4, h6⟩⟩
    · exact ⟨h3, .inr ⟨lv, by show lv.map (·.1) <+: _; rw [h5]; exact h4, h6⟩⟩
set_option maxRecDepth 20000 in
theorem bwalk_calls (tv : Value) (v : Int) (w : World) (ha : tv.oneCell' = true) : Calls Try.prog 19 #[tv, .int .i64 v] w fun e w' =>
    e = .returned (.func (.func 34) #[] #[.pointer (some ⟨w.heap.size, 0, none⟩), .pointer (some ⟨w.heap.size + 1, 0, none⟩)]) ∧
    w' = (w.alloc (.cells #[tv] 26)).alloc (.cells #[.int .i64 v] 3) := by
  go_enter Try.func19, Try.ntmps19
  go_wp2
  go_ret
  exact ⟨rfl, rfl⟩
theorem loop_le {N : Int} {T : List T3} (hs : Surf N T) (v : Int) : (loopAt T N v).length ≤ 4096 := by
  cases ha : aftV T v with
  | none => rw [loopAt_none ha]; simp
  | some a =>
    have h := hs.loop_is ha
    have := nodup_lt N.toNat _ h.nodup fun x hx => by have := h.lt x hx; omega
    have := hs.nmax
    omega
/-- What a round has that writes below, in place, or anew: the walk's maps and its box stay. -/
theorem keepM_of {n₁ Bv : Nat} {W W' : World} (ho : KeepsOthers W W') (hc : W'.cell? ⟨Bv, 0, none⟩ = W.cell? ⟨Bv, 0, none⟩) : KeepM n₁ Bv W W' := ⟨ho.size, hc, fun k o _ h1 h2 => ho.same k o h1 (by cases o <;> first | rfl | cases h2)⟩

end Go.Proofs.Ytpbdcppaiafbgaa

namespace Go.Proofs.Ytpbdcppaiafbgaa
open Go Go.RowKit Go.Words Go.Mesh
attribute [local go_sem] Oper.semAt_some

set_option maxRecDepth 20000 in
set_option maxHeartbeats 1000000 in
theorem appseq_calls {w : World} {B Bt Bv : Nat} {tv : Value} {N : Int} {T : List T3} (h : TabN w B tv N T) (hs : Surf N T) (v : Int) (hv9 : I64 v) (hBt : Bt < w.heap.size) (hBv : Bv < w.heap.size) (ht : w.cell? ⟨Bt, 0, none⟩ = some tv) (hv : w.cell? ⟨Bv, 0, none⟩ = some (.int .i64 v)) :
    Calls Try.prog 33 #[.slice none 0 0, .func (.func 34) #[] #[.pointer (some ⟨Bt, 0, none⟩), .pointer (some ⟨Bv, 0, none⟩)]] w fun e w' => (∃ r, e = .returned r ∧ w'.ownsRow w.heap.size 3 1 r (loopAt T N v).length (nvals (loopAt T N v))) ∧ Below w.heap.size w w' := by
  refine (callsIn_wide (n := 6)).1 ?_
  refine callsIn_of_wp_marks Try.func33 rfl trivial ?_ rfl
  simp only [Try.ntmps33, List.size_toArray, List.length_cons, List.length_nil, Nat.reduceAdd, Nat.reduceSub, Array.replicate_succ, Array.replicate_zero, List.push_toArray, List.append_toArray, List.nil_append, List.cons_append]
  obtain ⟨t, rfl⟩ := h.form
  have hll := loop_le hs v
  gi_wp2_with fail
  obtain ⟨gb, hgb⟩ : ∃ gb, gb = w.heap.size := ⟨_, rfl⟩
  rw [← hgb]
  obtain ⟨w0, hw0⟩ : ∃ w0, w0 = w.alloc (.cells #[.slice none 0 0] 31) := ⟨_, rfl⟩
  have hB1 : Below w.heap.size w w0 := by
    rw [hw0]; exact (Below.refl _ w).alloc (Nat.le_refl _) _
  have b1 : Boxed w0 gb 31 (.slice none 0 0) := by rw [hw0]; exact boxed_new' hgb _ _
  have ht0 : w0.cell? ⟨Bt, 0, none⟩ = some (.pointer t) := (hB1.cell (p := ⟨Bt, 0, none⟩) hBt).trans ht
  have hv0 : w0.cell? ⟨Bv, 0, none⟩ = some (.int .i64 v) := (hB1.cell (p := ⟨Bv, 0, none⟩) hBv).trans hv
  have hsz : w0.heap.size = gb + 1 := by rw [hw0]; simp [hgb]
  rw [← hw0]
  clear hw0
  have hle := h.le
  have hlt : gb ≤ w0.heap.size ∧ Bt < w0.heap.size ∧ Bv < w0.heap.size ∧ B ≤ gb ∧ gb + 1 ≤ w0.heap.size ∧ Bv < gb := by omega
  clear hsz hle
  have htab := h.below hB1 h.le
  have Hhgb := Lib.hid hgb; clear hgb; have Hh := Lib.hid h; clear h
  refine wpIn_rangeFunc_ownF rfl (by decide) (gf := 34) (lb := #[.pointer (some ⟨Bt, 0, none⟩), .pointer (some ⟨Bv, 0, none⟩)]) rfl trivial (enters_of Try.func34 (by kernel_rfl) rfl)
    (bwalk_stops 5 (by decide) Bt Bv B (.pointer t) N T v hv9 hs w0 hlt.2.1 hlt.2.2.1 ht0 hv0 htab) keepM_t (keepM_b hlt.2.2.1) (Below.refl _ _) (fun _ => rfl)
    (fun pre W => (∃ vv, Boxed W gb 31 vv ∧ W.ownsRow (gb + 1) 3 1 vv pre.length (nvals pre) ∧ True) ∧ Below gb w W ∧ gb + 1 ≤ W.heap.size)
    (fun _ _ _ => False)
    ?hI ?hIx ?h0
    (fun x => { tmps := #[.slice none 0 0, .func (.func 34) #[] #[.pointer (some ⟨Bt, 0, none⟩), .pointer (some ⟨Bv, 0, none⟩)], .pointer (some ⟨gb, 0, none⟩), undef, .slice none 0 0, .int .i64 (x : Int), .func (.func 34) #[] #[.pointer (some ⟨Bt, 0, none⟩), .pointer (some ⟨Bv, 0, none⟩)], .int .i64 (x : Int), undef, undef, undef, undef, undef], defers := [] }) ?assign ?body ?done ?stop
  case hI =>
    refine OwnFrom.and (Own.from (holdsRow_own (gb + 1) gb _ _ 1 (fun pre : List Nat => pre.length) (fun pre : List Nat => nvals pre) (fun _ _ => True)) _) (OwnFrom.and (ownFrom_below (by rw [Hhgb.out]; exact Nat.le_refl _) hlt.1) ?_)
    exact fun _ A C row hs hg _ => Nat.le_trans hs hg.size
  case hIx => exact fun _ _ _ _ _ h _ _ => h
  case h0 =>
    exact ⟨⟨_, b1, World.ownsRow_nil _ _ _ _, trivial⟩, by rw [Hhgb.out]; exact hB1, hlt.2.2.2.2.1⟩
  case assign =>
    intro l x W K hK
    gi_wp2
    exact hK
  case body =>
    rintro l pre x W ⟨⟨vv, hv, hrow, -⟩, hbl, hge⟩ hN
    obtain ⟨i0, hi, hz0, hz1, hz2⟩ := info_parts infoInt
    have hc := hv.cell
    have hnm := hs.nmax
    have hml : pre.length + 1 ≤ maxLen := by unfold maxLen; omega
    gi_wp2_with (gi_at_builtin; refine wpListIn_append_own _ rfl _ _ 31 rfl (gb + 1) 3 i0 (.int .i64 0) 1 8 Try.underlying31 hi hz0 hz1 hz2 rfl (by decide) _ _ _ rfl (hrow.alloc _) ⟨W.heap.size, 0, none⟩ 1 1 [.int .i64 (x : Int)] rfl rfl (cell_one_new _ _ _) (by simp [Value.oneCell']) (by omega) (by omega) (by have := hbl.size; simp; omega) ?_; intro v' w1 hown' hgrow _; obtain ⟨g', cap', rfl⟩ := ownsRow_succ hown'; obtain ⟨hv1, hv2, hr2, hk2, hbb, hoth⟩ := own_append hv (by omega) hrow hge hown' hgrow; have hc1 := hv1.cell; have hf1 := hv1.frozen)
    have hr3 : (w1.setCell ⟨gb, 0, none⟩ (.slice (some ⟨g', 0, none⟩) (pre.length + 1) cap')).ownsRow (gb + 1) 3 1 (.slice (some ⟨g', 0, none⟩) (pre.length + 1) cap') (pre ++ [x]).length (nvals (pre ++ [x])) := by simpa [nvals] using hr2
    have hkc := hbb gb (Nat.le_refl _)
    exact ⟨hk2, keepM_of hk2 (hkc.cell (p := ⟨Bv, 0, none⟩) hlt.2.2.2.2.2), ⟨⟨_, hv2, hr3, trivial⟩, hbl.trans hkc, Nat.le_trans hge hk2.size⟩⟩
  case done =>
    rintro D ys W hD hys ⟨⟨vv, hv, hrow, -⟩, hbl, hge⟩ hK
    have hc := hv.cell
    gi_wp2
    refine ⟨by simp, .inl ⟨_, _, rfl, run_takeDeferred hK, ?_⟩⟩
    refine ⟨_, results_tmp rfl _ _ _, ⟨_, rfl, ?_⟩, ?_⟩
    · rw [← hys, ← Hhgb.out]
      exact ownsRow_putObj (own_base hrow (by omega)) _ hK rfl
    · rw [← Hhgb.out]
      exact hbl.trans (belowK_b (w := w0) hlt.1 W D _ _ hD hK rfl rfl)
  case stop =>
    rintro D c pre W hD hpre h hK
    exact h.elim

set_option maxRecDepth 20000 in
theorem collect_calls {w : World} {B Bt Bv : Nat} {tv : Value} {N : Int} {T : List T3} (h : TabN w B tv N T) (hs : Surf N T) (v : Int) (hv9 : I64 v) (hBt : Bt < w.heap.size) (hBv : Bv < w.heap.size) (ht : w.cell? ⟨Bt, 0, none⟩ = some tv) (hv : w.cell? ⟨Bv, 0, none⟩ = some (.int .i64 v)) :
    Calls Try.prog 18 #[.func (.func 34) #[] #[.pointer (some ⟨Bt, 0, none⟩), .pointer (some ⟨Bv, 0, none⟩)]] w fun e w' => (∃ r, e = .returned r ∧ w'.ownsRow w.heap.size 3 1 r (loopAt T N v).length (nvals (loopAt T N v))) ∧ Below w.heap.size w w' := by
  have hap := appseq_calls h hs v hv9 hBt hBv ht hv
  have Hhap := Lib.hid hap; clear hap; have Hh := Lib.hid h; clear h; have Hhs := Lib.hid hs; clear hs
  go_enter Try.func18, Try.ntmps18
  go_wp2_with fail
  refine Hhap.out.mono ?_
  rintro e w1 ⟨⟨r, rfl, hown⟩, hb⟩
  have Hhown := Lib.hid hown; clear hown
  go_wp2_with fail
  go_ret
  exact ⟨⟨_, rfl, Hhown.out⟩, hb⟩
end Go.Proofs.Ytpbdcppaiafbgaa

namespace Go.Words
open Go Go.RowKit
variable {F : Fence} {n : Nat} {P : Program}

def mark (D : Nat) : Deferred := { target := .collected D, args := #[] }
theorem mark_inj : ∀ (A B : List Nat), A.map mark = B.map mark → A = B
  | [], [], _ => rfl
  | [], b :: B, h => by simp at h
  | a :: A, [], h => by simp at h
  | a :: A, b :: B, h => by
    simp only [List.map_cons, List.cons.injEq] at h
    obtain ⟨h8, h9⟩ := h
    have : a = b := by
      unfold mark at h8
      injection h8 with h8
      injection h8
    rw [this, mark_inj A B h9]
/-- The marks that loops over functions have left. -/
def Marks (w : World) (base : Nat) (ds : List Deferred) : Prop := ∃ Ds : List Nat, ds = Ds.map mark ∧ Ds.Nodup ∧ ∀ D ∈ Ds, base ≤ D ∧ w.heap[D]? = some (.deferred (some []))
theorem Marks.nil (w : World) (base : Nat) : Marks w base [] := ⟨[], rfl, List.nodup_nil, fun _ h => by cases h⟩
theorem Marks.keep {w w' : World} {base : Nat} {ds : List Deferred} (h : Marks w base ds) (hk : ∀ k, base ≤ k → w.heap[k]? = some (.deferred (some [])) → w'.heap[k]? = some (.deferred (some []))) : Marks w' base ds := by
  obtain ⟨Ds, h1, h2, h3⟩ := h
  exact ⟨Ds, h1, h2, fun D hD => ⟨(h3 D hD).1, hk D (h3 D hD).1 (h3 D hD).2⟩⟩
theorem Marks.below {w w' : World} {base : Nat} {ds : List Deferred} (h : Marks w base ds) (hb : Below w.heap.size w w') : Marks w' base ds :=
  h.keep fun k _ hk => (hb.block k (Array.getElem?_eq_some_iff.1 hk).1).trans hk
theorem Marks.grown {w w' : World} {base : Nat} {ds : List Deferred} {row : Option Nat} (h : Marks w base ds) (hg : w.grownBy w' row) (hr : ∀ r, row = some r → w.heap[r]? ≠ some (.deferred (some []))) : Marks w' base ds :=
  h.keep fun k _ hk => (hg.block k (Array.getElem?_eq_some_iff.1 hk).1 fun e => hr k e.symm hk).trans hk
theorem Marks.cons {w : World} {base D : Nat} {ds : List Deferred} (h : Marks w base ds) (hD : base ≤ D) (hK : w.heap[D]? = some (.deferred (some []))) (hnew : ∀ Ds : List Nat, ds = Ds.map mark → D ∉ Ds) : Marks w base (mark D :: ds) := by
  obtain ⟨Ds, rfl, h2, h3⟩ := h
  refine ⟨D :: Ds, rfl, List.nodup_cons.2 ⟨hnew Ds rfl, h2⟩, fun E hE => ?_⟩
  rcases List.mem_cons.1 hE with rfl | hE
  · exact ⟨hD, hK⟩
  · exact h3 E hE
/-- Marks that were there ahead of a block are not that block's. -/
theorem Marks.fresh {w : World} {base D : Nat} {ds : List Deferred} (h : Marks w base ds) (hD : w.heap.size ≤ D) : ∀ Ds : List Nat, ds = Ds.map mark → D ∉ Ds := by
  intro Ds e hm
  obtain ⟨Es, h1, _, h3⟩ := h
  obtain rfl : Es = Ds := mark_inj Es Ds (h1.symm.trans e)
  have := (Array.getElem?_eq_some_iff.1 (h3 D hm).2).1
  omega
theorem leaves_marks {fn : Func} {tmps : Array Value} {R : Ending → World → Prop} (base : Nat) (Inv : World → Prop)
    (hstep : ∀ W D, base ≤ D → Inv W → W.heap[D]? = some (.deferred (some [])) → Inv (W.putObj D (.deferred none))) (hend : ∀ W, Inv W → LeavesInM F n P fn tmps R [] .returning W) :
    ∀ (ds : List Deferred) (w : World), Marks w base ds → Inv w → LeavesInM F n P fn tmps R ds .returning w := by
  intro ds w ⟨Ds, h1, h2, h3⟩ hi
  subst h1
  induction Ds generalizing w with
  | nil => exact hend w hi
  | cons D Ds ih =>
    obtain ⟨hD, hK⟩ := h3 D List.mem_cons_self
    rw [List.nodup_cons] at h2
    refine ⟨by simp, .inl ⟨D, _, rfl, run_takeDeferred hK, ?_⟩⟩
    refine ih _ h2.2 (fun E hE => ⟨(h3 E (List.mem_cons_of_mem _ hE)).1, ?_⟩) (hstep w D hD hi hK)
    rw [World.putObj_heap_other (fun e : E = D => h2.1 (e ▸ hE))]
    exact (h3 E (List.mem_cons_of_mem _ hE)).2
end Go.Words
namespace Go.Mesh
/-- The loops met by vertices below k, each by its least vertex. -/
def lps (T : List T3) (N : Int) : Nat → List (List Nat)
  | 0 => []
  | k + 1 => lps T N k ++ (if (k ∈ (lps T N k).flatten) ∨ loopAt T N k = [] then [] else [loopAt T N k])
theorem lps_len (T : List T3) (N : Int) : ∀ k, (lps T N k).length ≤ k
  | 0 => by simp [lps]
  | k + 1 => by
    have := lps_len T N k
    unfold lps
    rw [List.length_append]
    split <;> simp <;> omega
end Go.Mesh

namespace Go.Proofs.Ytpbdcppaiafbgaa
open Go Go.RowKit Go.Words Go.Mesh
attribute [local go_sem] Oper.semAt_some

/-- A list of rows of numbers, each in own memory. -/
def OwnRows (w : World) (base : Nat) (r : Value) (Ls : List (List Nat)) : Prop := ∃ vs : List Value, vs.length = Ls.length ∧ w.ownsRow base 31 1 r Ls.length vs ∧ ∀ (i : Nat) (v : Value) (L : List Nat), vs[i]? = some v → Ls[i]? = some L → w.ownsRow base 3 1 v L.length (nvals L)

theorem infoRow : (Try.prog.info? 31).map (fun i => (i.zero, i.size, i.bytes)) = some (some (.slice none 0 0), 1, 24) := by kernel_rfl
/-- Between two rounds of Loops: vertices below k are done. -/
def LpsAt (w : World) (T : List T3) (nN B g : Nat) (r : Value) (k : Nat) (wr : World) : Prop := k ≤ nN ∧ OwnRows wr (w.heap.size + 2) r (lps T nN k) ∧
  (∃ lm : List (Int × Unit), Mp enc1 I64 (fun _ : Unit => .bool true) wr w.heap.size lm ∧ ∀ x : Nat, (Words.look lm (x : Int)).isSome = true ↔ x ∈ (lps T nN k).flatten) ∧
  Boxed wr (w.heap.size + 1) 59 (.map (some w.heap.size)) ∧ Below w.heap.size w wr ∧ Tab wr B (.pointer (some ⟨g, 0, none⟩)) nN T ∧ w.heap.size + 2 ≤ wr.heap.size
set_option maxRecDepth 20000 in
set_option maxHeartbeats 1000000 in
theorem bloops_calls {w : World} {B : Nat} {tv : Value} {N : Int} {T : List T3} (h : TabN w B tv N T) (hs : Surf N T) :
    Calls Try.prog 7 #[tv] w fun e w' => (∃ r, e = .returned r ∧ OwnRows w' w.heap.size r (lps T N N.toNat)) ∧ Below w.heap.size w w' := by
  rcases h with h | ⟨rfl, rfl, rfl, _⟩
  case inr =>
    go_enter Try.func7, Try.ntmps7
    go_wp2_with fail
    go_ret
    exact ⟨⟨_, rfl, [], rfl, World.ownsRow_nil _ _ _ _, fun i v L h => by simp at h⟩, Below.refl _ _⟩
  case inl =>
    have hle := h.le
    obtain ⟨g, rfl⟩ : ∃ g, tv = .pointer (some ⟨g, 0, none⟩) := by
      obtain ⟨g, _, _, _, _, _, rfl, _⟩ := h
      exact ⟨_, rfl⟩
    obtain ⟨nN, rfl⟩ : ∃ nN : Nat, N = (nN : Int) := ⟨N.toNat, by have := hs.n0; omega⟩
    have hmax := hs.nmax
    rw [Int.toNat_natCast]
    refine (callsIn_wide (n := 9)).1 ?_
    refine callsIn_of_wp_marks Try.func7 rfl trivial ?_ rfl
    simp only [Try.ntmps7, List.size_toArray, List.length_cons, List.length_nil, Nat.reduceAdd, Nat.reduceSub, Array.replicate_succ, Array.replicate_zero, List.push_toArray, List.append_toArray, List.nil_append, List.cons_append]
    have hmm := @run_makeMap Try.prog
    have hvc := fun wz (hz : Tab wz B (.pointer (some ⟨g, 0, none⟩)) nN T) => tab_vertices hz
    have Hhvc := Lib.hid hvc; clear hvc; have Hh := Lib.hid h; clear h
    gi_wp2_with fail
    obtain ⟨w0, hw0⟩ : ∃ w0, w0 = (w.alloc (.map #[] 0)).alloc (.cells #[.map (some w.heap.size)] 59) := ⟨_, rfl⟩
    have hB1 : Below w.heap.size w w0 := by rw [hw0]; exact ((Below.refl _ w).alloc (Nat.le_refl _) _).alloc (by simp) _
    have hmp : Mp enc1 I64 (fun _ : Unit => .bool true) w0 w.heap.size ([] : List (Int × Unit)) := by rw [hw0]; exact (Mp.new w).alloc _
    have hbx : Boxed w0 (w.heap.size + 1) 59 (.map (some w.heap.size)) := by rw [hw0]; exact boxed_new' (by simp) _ _
    have hsz : w0.heap.size = w.heap.size + 2 := by rw [hw0]; simp
    have htab := Hh.out.below hB1 hle
    rw [← hw0]
    clear hw0 hmm
    refine ⟨trivial, (callsIn_wide.2 (Hhvc.out _ htab)).mono ?_⟩
    rintro e w0 ⟨rfl, rfl⟩
    gi_wp2_with fail
    refine wpIn_loop (fun a wr => ∃ (ds : List Deferred) (r u5 u6 u7 u14 u15 u16 u17 u18 u19 u20 u21 u22 u23 u24 u25 u26 u27 u28 u29 u30 u31 u32 u33 u34 u35 u36 u37 : Value) (k : Nat) (kI : Int), kI = (k : Int) ∧ LpsAt w T nN B g r k wr ∧ Marks wr (w.heap.size + 2) ds ∧ a = { tmps := #[.pointer (some ⟨g, 0, none⟩), undef, .slice none 0 0, r, .pointer (some ⟨w.heap.size + 1, 0, none⟩), u5, u6, u7, .pointer (some ⟨g, 0, none⟩), .bool false, .map (some w.heap.size), .pointer (some ⟨g, 0, none⟩), .int .i64 nN, .int .i64 kI, u14, u15, u16, u17, u18, u19, u20, u21, u22, u23, u24, u25, u26, u27, u28, u29, u30, u31, u32, u33, u34, u35, u36, u37], defers := ds }) (fun a _ => nN - (intOf (a.tmps.getD 13 undef)).toNat) ?_ ?_
    · exact ⟨[], _, _, _, _, _, _, _, _, _, _, _, _, _, _, _, _, _, _, _, _, _, _, _, _, _, _, _, _, 0, 0, rfl, ⟨by omega, ⟨[], rfl, World.ownsRow_nil _ _ _ _, fun i v L h => by simp at h⟩, ⟨[], hmp, fun x => by simp [Words.look, lps]⟩, hbx, hB1, htab, by omega⟩, Marks.nil _ _, rfl⟩
    · rintro a wr ⟨ds, r, u5, u6, u7, u14, u15, u16, u17, u18, u19, u20, u21, u22, u23, u24, u25, u26, u27, u28, u29, u30, u31, u32, u33, u34, u35, u36, u37, k, _, rfl, ⟨hk, hrows, ⟨lm, hmp, hlook⟩, hbx, hbel, htab, hsz⟩, hmarks, rfl⟩
      by_cases hkn : k < nN
      case neg =>
        obtain rfl : k = nN := by omega
        have hbl := hbx.cell
        obtain ⟨vs, hvl, hov, hin⟩ := hrows
        obtain ⟨A9, cap9, rfl, hcap9⟩ := own_form hov
        have Hhmp := Lib.hid hmp; clear hmp; have Hhlook := Lib.hid hlook; clear hlook; have Hhbx := Lib.hid hbx; clear hbx; have Hhtab := Lib.hid htab; clear htab; have Hhov := Lib.hid hov; clear hov; have Hhin := Lib.hid hin; clear hin; have Hhmarks := Lib.hid hmarks; clear hmarks
        gi_wp2_with fail
        refine leaves_marks (w.heap.size + 2) (fun W => OwnRows W (w.heap.size + 2) (.slice A9 (lps T k k).length cap9) (lps T k k) ∧ Below w.heap.size w W) ?_ ?_ ds wr Hhmarks.out ⟨⟨vs, hvl, Hhov.out, Hhin.out⟩, hbel⟩
        · rintro W D hD ⟨⟨vs, h1, h2, h3⟩, h4⟩ hK
          exact ⟨⟨vs, h1, ownsRow_putObj h2 _ hK rfl, fun i v L h5 h6 => ownsRow_putObj (h3 i v L h5 h6) _ hK rfl⟩, h4.trans (belowK_b (w := w) (Nat.le_refl _) W D _ _ (by omega) hK rfl rfl)⟩
        · rintro W ⟨⟨vs, h1, h2, h3⟩, h4⟩
          exact ⟨_, results_tmp rfl _ _ _, ⟨_, rfl, ⟨vs, h1, own_base h2 (by omega), fun i v L h5 h6 => own_base (h3 i v L h5 h6) (by omega)⟩⟩, h4⟩
      case pos =>
        have hc := hbx.cell
        have hkI : I64 (k : Int) := by unfold I64; omega
        by_cases hin : k ∈ (lps T nN k).flatten
        · have hlk : ((Words.look lm (k : Int)).map (fun _ : Unit => Value.bool true)).getD (.bool false) = .bool true := by
            obtain ⟨y, hy⟩ := Option.isSome_iff_exists.1 ((hlook k).2 hin)
            rw [hy]
            rfl
          have hst : lps T nN (k + 1) = lps T nN k := by
            show lps T nN k ++ _ = _
            rw [if_pos (.inl hin), List.append_nil]
          have Hhrows := Lib.hid hrows; clear hrows; have Hhmp := Lib.hid hmp; clear hmp; have Hhlook := Lib.hid hlook; clear hlook; have Hhbx := Lib.hid hbx; clear hbx; have Hhtab := Lib.hid htab; clear htab; have Hhmarks := Lib.hid hmarks; clear hmarks; have Hhin := Lib.hid hin; clear hin; have Hhst := Lib.hid hst; clear hst
          gi_wp2_with (refine wpListIn_look _ rfl _ _ 59 rfl 3 4 keyI Try.underlying59 zero_bool w.heap.size lm rfl Hhmp.out (k : Int) rfl hkI ?_; rw [hlk])
          refine ⟨⟨ds, r, _, _, _, _, _, _, _, _, _, _, _, _, _, _, _, _, _, _, _, _, _, _, _, _, _, _, _, k + 1, _, by simp, ⟨by omega, by rw [Hhst.out]; exact Hhrows.out, ⟨lm, Hhmp.out, by rw [Hhst.out]; exact Hhlook.out⟩, Hhbx.out, hbel, Hhtab.out, hsz⟩, Hhmarks.out, rfl⟩, ?_⟩
          show nN - ((k : Int) + 1).toNat < nN - ((k : Int)).toNat
          omega
        · have hlk : ((Words.look lm (k : Int)).map (fun _ : Unit => Value.bool true)).getD (.bool false) = .bool false := by
            cases hl : Words.look lm (k : Int) with
            | none => rfl
            | some y => exact absurd ((hlook k).1 (by rw [hl]; rfl)) hin
          have Hhrows := Lib.hid hrows; clear hrows; have Hhmp := Lib.hid hmp; clear hmp; have Hhlook := Lib.hid hlook; clear hlook; have Hhbx := Lib.hid hbx; clear hbx; have Hhtab := Lib.hid htab; clear htab; have Hhmarks := Lib.hid hmarks; clear hmarks; have Hhin := Lib.hid hin; clear hin
          gi_wp2_with (refine wpListIn_look _ rfl _ _ 59 rfl 3 4 keyI Try.underlying59 zero_bool w.heap.size lm rfl Hhmp.out (k : Int) rfl hkI ?_; rw [hlk])
          refine ⟨trivial, (callsIn_wide.2 (bwalk_calls _ _ _ rfl)).mono ?_⟩
          rintro e w1 ⟨rfl, hw1⟩
          have hb1 : Below wr.heap.size wr w1 := by rw [hw1]; exact ((Below.refl _ wr).alloc (Nat.le_refl _) _).alloc (by simp) _
          have q1 : w1.cell? ⟨wr.heap.size, 0, none⟩ = some (.pointer (some ⟨g, 0, none⟩)) := by rw [hw1]; exact ((boxed_new' rfl _ _).alloc _).cell
          have q2 : w1.cell? ⟨wr.heap.size + 1, 0, none⟩ = some (.int .i64 (k : Int)) := by rw [hw1]; exact (boxed_new' (by simp) _ _).cell
          have hz1 : w1.heap.size = wr.heap.size + 2 := by rw [hw1]; simp
          clear hw1
          have htab1 := Hhtab.out.below hb1 Hhtab.out.le
          have hco := collect_calls (.inl htab1) hs (k : Int) hkI (by omega) (by omega) q1 q2
          have hz1' : wr.heap.size + 2 ≤ w1.heap.size := by omega
          clear hz1
          have Hhco := Lib.hid hco; clear hco; have Hhtab1 := Lib.hid htab1; clear htab1
          gi_wp2_with fail
          refine ⟨trivial, (callsIn_wide.2 Hhco.out).mono ?_⟩
          rintro e w2 ⟨⟨rl, rfl, hownl⟩, hb2⟩
          have hb3 : Below wr.heap.size wr w2 := hb1.trans (hb2.mono (by omega))
          obtain ⟨Al, capl, rfl, hcapl⟩ := own_form hownl
          have Hhownl := Lib.hid hownl; clear hownl
          gi_wp2_with fail
          refine ⟨trivial, (callsIn_wide.2 (bwalk_calls _ _ _ rfl)).mono ?_⟩
          rintro e w3 ⟨rfl, hw3⟩
          have hb4 : Below w2.heap.size w2 w3 := by rw [hw3]; exact ((Below.refl _ w2).alloc (Nat.le_refl _) _).alloc (by simp) _
          have q3 : w3.cell? ⟨w2.heap.size, 0, none⟩ = some (.pointer (some ⟨g, 0, none⟩)) := by rw [hw3]; exact ((boxed_new' rfl _ _).alloc _).cell
          have q4 : w3.cell? ⟨w2.heap.size + 1, 0, none⟩ = some (.int .i64 (k : Int)) := by rw [hw3]; exact (boxed_new' (by simp) _ _).cell
          have hz3 : w3.heap.size = w2.heap.size + 2 := by rw [hw3]; simp
          clear hw3
          gi_wp2_with fail
          have hb5 : Below wr.heap.size wr w3 := hb3.trans (hb4.mono hb3.size)
          have hmp3 := Hhmp.out.below hb5 (by omega)
          have hbx3 := (hb5.cell (p := ⟨w.heap.size + 1, 0, none⟩) (by show w.heap.size + 1 < _; omega)).trans hc
          have htab3 := Hhtab.out.below hb5 Hhtab.out.le
          have hz5 := hb5.size
          have hz2 := hb3.size
          have hzz2 := hb2.size
          have hnm := hs.nmax
          have Hhmp3 := Lib.hid hmp3; clear hmp3; have Hhtab3 := Lib.hid htab3; clear htab3
          refine wpIn_rangeFunc_ownG rfl (by decide) (gf := 34) (lb := #[.pointer (some ⟨w2.heap.size, 0, none⟩), .pointer (some ⟨w2.heap.size + 1, 0, none⟩)]) rfl trivial (enters_of Try.func34 (by kernel_rfl) rfl)
            (bwalk_stopsV 8 (by decide) w2.heap.size (w2.heap.size + 1) B (.pointer (some ⟨g, 0, none⟩)) nN T (k : Int) hkI hs w3 (by omega) (by omega) q3 q4 (.inl Hhtab3.out)) keepM_t (keepM_b (by omega)) (Below.refl _ _) (fun _ => rfl)
            (fun pre W => (∃ lm' : List (Int × Unit), Mp enc1 I64 (fun _ : Unit => .bool true) W w.heap.size lm' ∧ ∀ x : Nat, (Words.look lm' (x : Int)).isSome = true ↔ (x ∈ (lps T nN k).flatten ∨ x ∈ pre.map (·.1))) ∧ w3.grownBy W (some w.heap.size))
            (fun _ _ _ => False)
            ?hI ?hIx ?h0
            (fun x => { tmps := #[.pointer (some ⟨g, 0, none⟩), undef, .slice none 0 0, r, .pointer (some ⟨w.heap.size + 1, 0, none⟩), .int .i64 (k : Int), (.slice Al (loopAt T nN k).length capl), .int .i64 (x.1 : Int), .pointer (some ⟨g, 0, none⟩), .bool false, .map (some w.heap.size), .pointer (some ⟨g, 0, none⟩), .int .i64 nN, .int .i64 (k : Int), .bool true, .int .i64 (k : Int), .map (some w.heap.size), .int .i64 (k : Int), .bool false, .pointer (some ⟨g, 0, none⟩), .int .i64 (k : Int), (.func (.func 34) #[] #[.pointer (some ⟨wr.heap.size, 0, none⟩), .pointer (some ⟨wr.heap.size + 1, 0, none⟩)]), (.slice Al (loopAt T nN k).length capl), .pointer (some ⟨g, 0, none⟩), .int .i64 (k : Int), (.func (.func 34) #[] #[.pointer (some ⟨w2.heap.size, 0, none⟩), .pointer (some ⟨w2.heap.size + 1, 0, none⟩)]), .int .i64 (x.1 : Int), u27, u28, u29, u30, u31, u32, u33, u34, u35, u36, u37], defers := [] }) ?assign ?body ?done ?stop
          case hI =>
            rintro pre W W' row ⟨⟨lm', h1, h2⟩, h3⟩ hg hr
            have hne : ∀ q, row = some q → w3.heap.size ≤ q := fun q e => (hr q e).1
            refine ⟨⟨lm', h1.grown hg (fun e => by have := hne _ e.symm; omega), h2⟩, ⟨hg.os.trans h3.os, hg.tape.trans h3.tape, hg.output.trans h3.output, Nat.le_trans h3.size hg.size, fun q hq hqn => ?_⟩⟩
            exact (hg.block q (Nat.lt_of_lt_of_le hq h3.size) (fun e => by have := hne q e.symm; omega)).trans (h3.block q hq hqn)
          case hIx => exact fun _ _ _ _ _ h _ _ => h
          case h0 => exact ⟨⟨lm, Hhmp3.out, fun x => by rw [Hhlook.out]; simp⟩, ⟨rfl, rfl, rfl, Nat.le_refl _, fun _ _ _ => rfl⟩⟩
          case assign =>
            intro l x W K hK
            gi_wp2
            exact hK
          case body =>
            rintro l pre x W ⟨⟨lm', h1, h2⟩, h3⟩ hN
            have hbW : W.cell? ⟨w.heap.size + 1, 0, none⟩ = some (.map (some w.heap.size)) := by
              rw [← hbx3]
              unfold World.cell?
              rw [h3.block (w.heap.size + 1) (by omega) (by simp)]
            have hxI : I64 (x.1 : Int) := by
              have := x.2
              unfold I64
              omega
            have Hh1 := Lib.hid h1; clear h1; have Hh2 := Lib.hid h2; clear h2; have Hh3 := Lib.hid h3; clear h3
            gi_wp2_with (refine wpListIn_put _ rfl _ _ _ 59 rfl 3 4 keyI Try.underlying59 w.heap.size lm' rfl Hh1.out (x.1 : Int) rfl hxI () rfl ?_; intro w5 hmp5 hgr5 hsz5)
            refine ⟨KeepsFrom.of_grownBy hgr5 (fun j e => by cases e; omega), ⟨hgr5.size, ?_, fun q o hq ho hw => (hgr5.block q (Array.getElem?_eq_some_iff.1 ho).1 (by simp; omega)).trans ho⟩, ⟨put lm' (x.1 : Int) (), hmp5, fun y => ?_⟩, ?_⟩
            · unfold World.cell?
              have := Hh3.out.size
              rw [hgr5.block (w2.heap.size + 1) (by omega) (by simp; omega)]
            · rw [look_put, List.map_append, List.mem_append]
              by_cases hxy : (x.1 : Int) = (y : Int)
              · have : y = x.1 := by omega
                rw [if_pos hxy, this]
                simp
              · rw [if_neg hxy, Hh2.out y]
                have : y ≠ x.1 := fun e => hxy (by rw [e])
                simp [this]
            · have h3 := Hh3.out
              exact ⟨hgr5.os.trans h3.os, hgr5.tape.trans h3.tape, hgr5.output.trans h3.output, Nat.le_trans h3.size hgr5.size, fun q hq hqn => (hgr5.block q (Nat.lt_of_lt_of_le hq h3.size) hqn).trans (h3.block q hq hqn)⟩
          case stop =>
            rintro D c pre W hD hpre h hK
            exact h.elim
          case done =>
            rintro D ys W hD hys ⟨⟨lm', h1, h2⟩, h3⟩ hK
            rw [hys] at h2
            have hbelW : Below w.heap.size w3 W := (Below.refl _ w3).grown h3 (by omega) (fun q e => by cases e; omega)
            have hbel9 : Below w.heap.size w W := (hbel.trans (hb5.mono (by omega))).trans hbelW
            have htab9 := Hhtab3.out.below hbelW hle
            have hbx9 : Boxed W (w.heap.size + 1) 59 (.map (some w.heap.size)) := Boxed.kept (W := w3) ((hb5.block (w.heap.size + 1) (by omega)).trans Hhbx.out) h3 (by simp)
            obtain ⟨vs, v1, v2, v3⟩ := Hhrows.out
            have hown9 := (own_below (own_below (own_below Hhownl.out (Below.refl _ _) (Nat.le_refl _)) hb4 (Nat.le_refl _)) (Below.refl _ _) (Nat.le_refl _)).kept h3 (.inr (Hhmp3.out.no_row (own_below Hhownl.out hb4 (Nat.le_refl _))).symm)
            have hv2 := (own_below v2 hb5 (Nat.le_refl _)).kept h3 (.inr (Hhmp3.out.no_row (own_below v2 hb5 (Nat.le_refl _))).symm)
            have hv3 : ∀ (i : Nat) (v : Value) (L : List Nat), vs[i]? = some v → (lps T nN k)[i]? = some L → W.ownsRow (w.heap.size + 2) 3 1 v L.length (nvals L) := fun i v L e1 e2 =>
              (own_below (v3 i v L e1 e2) hb5 (Nat.le_refl _)).kept h3 (.inr (Hhmp3.out.no_row (own_below (v3 i v L e1 e2) hb5 (Nat.le_refl _))).symm)
            have hmk3 := Hhmarks.out.below hb5
            have hmk9 := ((hmk3.grown h3 (fun q e h9 => by
              cases e
              obtain ⟨es, clock, g1, _⟩ := Hhmp3.out.block
              rw [g1] at h9
              cases h9)).cons (D := D) (by omega) hK (hmk3.fresh hD))
            have hszW := h3.size
            generalize hL : loopAt T nN k = L at *
            by_cases hl0 : L.length = 0
            · have hLe : L = [] := List.length_eq_zero_iff.1 hl0
              have hnz : (L.length : Int) ≤ 0 := by omega
              have hst : lps T nN (k + 1) = lps T nN k := by
                show lps T nN k ++ _ = _
                rw [if_pos (.inr (hL.trans hLe)), List.append_nil]
              have h2' : ∀ x : Nat, (Words.look lm' (x : Int)).isSome = true ↔ x ∈ (lps T nN (k + 1)).flatten := fun x => by rw [h2, hst, hLe]; simp
              have hrows9 : OwnRows W (w.heap.size + 2) r (lps T nN (k + 1)) := by rw [hst]; exact ⟨vs, v1, hv2, hv3⟩
              clear hl0
              have Hhbx9 := Lib.hid hbx9; clear hbx9; have Hhtab9 := Lib.hid htab9; clear htab9; have Hhown9 := Lib.hid hown9; clear hown9; have Hhv2 := Lib.hid hv2; clear hv2; have Hhv3 := Lib.hid hv3; clear hv3; have Hhmk3 := Lib.hid hmk3; clear hmk3; have Hhmk9 := Lib.hid hmk9; clear hmk9; have HhL := Lib.hid hL; clear hL; have HhLe := Lib.hid hLe; clear hLe; have Hhst := Lib.hid hst; clear hst; have Hh1 := Lib.hid h1; clear h1; have Hh2 := Lib.hid h2; clear h2; have Hh2' := Lib.hid h2'; clear h2'; have Hh3 := Lib.hid h3; clear h3; have Hhrows9 := Lib.hid hrows9; clear hrows9
              gi_wp2_with fail
              refine ⟨⟨Words.mark D :: ds, r, _, _, _, _, _, _, _, _, _, _, _, _, _, _, _, _, _, _, _, _, _, _, _, _, _, _, _, k + 1, (k : Int) + 1, by simp, ⟨by omega, Hhrows9.out, ⟨lm', Hh1.out, Hh2'.out⟩, Hhbx9.out, hbel9, Hhtab9.out, by omega⟩, Hhmk9.out, rfl⟩, ?_⟩
              show nN - ((k : Int) + 1).toNat < nN - ((k : Int)).toNat
              omega
            · have hnz : 0 < L.length := by omega
              have hLe : L ≠ [] := fun e => hl0 (by rw [e]; rfl)
              have hnin : k ∉ (lps T nN k).flatten := Hhin.out
              have hst : lps T nN (k + 1) = lps T nN k ++ [L] := by
                show lps T nN k ++ _ = _
                rw [if_neg (fun h => h.elim hnin fun e => hLe (hL.symm.trans e)), hL]
              have h2' : ∀ x : Nat, (Words.look lm' (x : Int)).isSome = true ↔ x ∈ (lps T nN (k + 1)).flatten := fun x => by rw [h2, hst]; simp
              have hll := lps_len T nN k
              have hml : (lps T nN k).length + 1 ≤ maxLen := by unfold maxLen; omega
              obtain ⟨i0, hi, hz0, hz1, hzb⟩ := info_parts infoRow
              clear hl0
              have Hhbx9 := Lib.hid hbx9; clear hbx9; have Hhtab9 := Lib.hid htab9; clear htab9; have Hhown9 := Lib.hid hown9; clear hown9; have Hhv2 := Lib.hid hv2; clear hv2; have Hhv3 := Lib.hid hv3; clear hv3; have Hhmk3 := Lib.hid hmk3; clear hmk3; have Hhmk9 := Lib.hid hmk9; clear hmk9; have HhL := Lib.hid hL; clear hL; have HhLe := Lib.hid hLe; clear hLe; have Hh1 := Lib.hid h1; clear h1; have Hh2 := Lib.hid h2; clear h2; have Hh2' := Lib.hid h2'; clear h2'; have Hh3 := Lib.hid h3; clear h3; have Hhst := Lib.hid hst; clear hst; have Hhnin := Lib.hid hnin; clear hnin
              gi_wp2_with (gi_at_builtin; refine wpListIn_append_own _ rfl _ _ 29 rfl (w.heap.size + 2) 31 i0 (.slice none 0 0) 1 24 Try.underlying29 hi hz0 hz1 hzb rfl (by decide) _ _ _ rfl (Hhv2.out.alloc _) ⟨W.heap.size, 0, none⟩ 1 1 [.slice Al L.length capl] rfl rfl (cell_one_new _ _ _) (by simp [Value.oneCell']) (by omega) (by omega) (by simp; omega) ?_; intro v' w5 hown5 hgrow5 _)
              have hgr : (W.alloc (.cells #[.slice Al L.length capl] 31)).grownBy w5 r.ownBlock := hgrow5
              have hov := Hhv2.out
              have hovA := hov.alloc (.cells #[.slice Al L.length capl] 31)
              have hblk : ∀ j, r.ownBlock = some j → w.heap.size + 2 ≤ j := fun j hj => (hov.lt j hj).1
              have hbW5 : Below (w.heap.size + 2) W w5 := ((Below.refl _ W).alloc (by omega) _).grown hgr (by simp; omega) fun j hj => hblk j hj
              have hbl5 : Below w.heap.size w w5 := hbel9.trans (hbW5.mono (by omega))
              have htab5 := Hhtab9.out.below hbW5 (by omega)
              have hmp5 : Mp enc1 I64 (fun _ : Unit => .bool true) w5 w.heap.size lm' := Hh1.out.below hbW5 (by omega)
              have hbx5 : Boxed w5 (w.heap.size + 1) 59 (.map (some w.heap.size)) := (hbW5.block (w.heap.size + 1) (by omega)).trans Hhbx9.out
              have hsz5 := hbW5.size
              have hin5 : ∀ (v : Value) (L' : List Nat), W.ownsRow (w.heap.size + 2) 3 1 v L'.length (nvals L') → w5.ownsRow (w.heap.size + 2) 3 1 v L'.length (nvals L') := fun v L' h9 => by
                have hA := h9.alloc (.cells #[.slice Al L.length capl] 31)
                exact hA.kept hgr (own_apart hovA hA (by decide))
              have hrows5 : OwnRows w5 (w.heap.size + 2) v' (lps T nN (k + 1)) := by
                rw [Hhst.out]
                refine ⟨vs ++ [.slice Al L.length capl], by simp [v1], by rw [List.length_append]; exact hown5, fun i v L' e1 e2 => ?_⟩
                by_cases hi9 : i < (lps T nN k).length
                · rw [List.getElem?_append_left (by omega)] at e1
                  rw [List.getElem?_append_left hi9] at e2
                  exact hin5 v L' (Hhv3.out i v L' e1 e2)
                · have hi8 : i = (lps T nN k).length := by
                    have := (List.getElem?_eq_some_iff.1 e2).1
                    rw [List.length_append] at this
                    simp only [List.length_cons, List.length_nil] at this
                    omega
                  subst hi8
                  rw [← v1] at e1
                  rw [List.getElem?_append_right (Nat.le_refl _)] at e1 e2
                  simp only [Nat.sub_self, List.getElem?_cons_zero, Option.some.injEq] at e1 e2
                  subst e1; subst e2
                  exact hin5 _ _ (own_base Hhown9.out (by omega))
              have hmk5 : Marks w5 (w.heap.size + 2) (Words.mark D :: ds) := by
                refine (Hhmk9.out.below ((Below.refl _ W).alloc (Nat.le_refl _) (.cells #[.slice Al L.length capl] 31))).grown hgr fun q hq h9 => ?_
                rcases hovA.2 with ⟨rfl, _⟩ | ⟨g9, cap9, cur9, rfl, _, hh9, _⟩
                · cases hq
                · have : g9 = q := by simpa [Value.ownBlock] using hq
                  subst this
                  rw [hh9] at h9
                  cases h9
              refine ⟨⟨Words.mark D :: ds, v', _, _, _, _, _, _, _, _, _, _, _, _, _, _, _, _, _, _, _, _, _, _, _, _, _, _, _, k + 1, (k : Int) + 1, by simp, ⟨by omega, hrows5, ⟨lm', hmp5, Hh2'.out⟩, hbx5, hbl5, htab5, by omega⟩, hmk5, rfl⟩, ?_⟩
              show nN - ((k : Int) + 1).toNat < nN - ((k : Int)).toNat
              omega
end Go.Proofs.Ytpbdcppaiafbgaa

namespace Go.Proofs.Ytpbdcppaiafbgaa
open Go Go.RowKit Go.Words Go.Mesh

theorem OwnRows.sl {w : World} {base : Nat} {r : Value} {Ls : List (List Nat)} (h : OwnRows w base r Ls) : Sl 1 (RSl 1 RInt) w w.heap.size r (Ls.map fun T => T.map fun n : Nat => (n : Int)) := by
  obtain ⟨vs, h1, h2, h3⟩ := h
  have := Sl.of_own (R := RSl 1 RInt) (l := Ls.map fun T => T.map fun n : Nat => (n : Int)) (v := r) (by simpa using h2) fun i T' hi => ?_
  · exact this
  · rw [List.getElem?_map] at hi
    obtain ⟨T, hT, rfl⟩ := Option.map_eq_some_iff.1 hi
    have hlt : i < vs.length := by rw [h1]; exact (List.getElem?_eq_some_iff.1 hT).1
    refine ⟨vs[i], ?_, sl_nvals (h3 i _ _ (List.getElem?_eq_getElem hlt) hT)⟩
    rw [Nat.mul_one, List.drop_eq_getElem_cons hlt]
    rfl
theorem keeps_rows : Keeps (RSl 1 RInt) := keeps_sl keeps_int

end Go.Proofs.Ytpbdcppaiafbgaa

namespace Go.Mesh
def ex12 : List T3 := [(0, 1, 2)]
theorem surf_ex12 : Surf 3 ex12 := surf_check (by decide +kernel)
theorem bed_ex12 : bedges ex12 = [(1, 2), (2, 0), (0, 1)] := by decide +kernel
theorem aft_ex12 : afI ex12 0 = 2 := by decide +kernel
theorem lps_ex12 : lps ex12 3 3 = [[0, 2, 1]] := by decide +kernel
end Go.Mesh
namespace Go.Proofs.Ytpbdcppaiafbgaa
open Go Go.RowKit Go.Words Go.Mesh

theorem edge_eq (w : World) : Sem.run Try.prog (Op.equalIn 10000 47 (.agg #[.int .i64 1, .int .i64 2]) (.agg #[.int .i64 1, .int .i64 2])) w = .ok true w := by kernel_rfl
end Go.Proofs.Ytpbdcppaiafbgaa
