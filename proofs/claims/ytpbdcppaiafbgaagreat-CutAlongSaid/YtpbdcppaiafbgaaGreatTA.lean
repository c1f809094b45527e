/- Walks: a table of corners: what stands in it. -/
import Derived.Test.YtpbdcppaiafbgaaGreatSurf
import Derived.Test.YtpbdcppaiafbgaaGreatTree
namespace Go.Mesh
def hasC (T : List T3) (c : Int) : Prop := 0 ≤ c ∧ c < 3 * (T.length : Int)
instance (T : List T3) (c : Int) : Decidable (hasC T c) := by unfold hasC; exact inferInstance
def tVert (T : List T3) (c : Int) : Int := if hasC T c then vt T c.toNat else -1
def tNext (T : List T3) (c : Int) : Int := if hasC T c then (nx c.toNat : Int) else -1
def tPrev (T : List T3) (c : Int) : Int := if hasC T c then (pv c.toNat : Int) else -1
def tEdge (T : List T3) (c : Int) : Int × Int := (tVert T (tNext T c), tVert T (tPrev T c))
end Go.Mesh
namespace Go.Proofs.YtpbdcppaiafbgaaGreat
open Go Go.RowKit Go.Words Go.Mesh

structure TabAt (w : World) (B g : Nat) (N : Int) (T : List T3) (vt : Value) (gm : Nat) (vf : Value) : Prop where
  blk : Bk w g 120 [.int .i64 N, vt, .map (some gm), vf]
  tris : Sl 3 RTri w B vt T
  few : T.length ≤ 8192
  lt : g < B
  le : B ≤ w.heap.size
theorem TabAt.below {w w' : World} {B B' g gm : Nat} {N : Int} {T : List T3} {vt vf : Value} (h : TabAt w B g N T vt gm vf) (hb : RowKit.Below B' w w') (hB : B ≤ B') : TabAt w' B g N T vt gm vf :=
  ⟨h.blk.below hb (by have := h.lt; omega), h.tris.below keeps_tri (hb.mono hB), h.few, h.lt, Nat.le_trans h.le hb.size⟩
theorem TabAt.alloc {w : World} {B g gm : Nat} {N : Int} {T : List T3} {vt vf : Value} (h : TabAt w B g N T vt gm vf) (o : Obj) : TabAt (w.alloc o) B g N T vt gm vf := h.below ((RowKit.Below.refl w.heap.size w).alloc (Nat.le_refl _) o) h.le

set_option maxRecDepth 20000 in
theorem has_calls {w : World} {B g gm : Nat} {N : Int} {T : List T3} {vt vf : Value} (h : TabAt w B g N T vt gm vf) (c : Int) :
    Calls Tryz.prog 121 #[.pointer (some ⟨g, 0, none⟩), .int .i64 c] w fun e w' => e = .returned (.bool (decide (hasC T c))) ∧ w' = w := by
  obtain ⟨A, cap, hA, hcap⟩ := h.tris.form
  subst hA
  have c0 : w.cell? ⟨g, 0, none⟩ = some (.int .i64 N) := h.blk.cell 0
  have c1 : w.cell? ⟨g, 1, none⟩ = some (.slice A T.length cap) := h.blk.cell 1
  have hfew := h.few
  have hg := h.blk.lt
  have Hh := Lib.hid h; clear h
  by_cases h1 : 0 ≤ c
  · by_cases h2 : c < 3 * (T.length : Int)
    · rw [show decide (hasC T c) = true from decide_eq_true ⟨h1, h2⟩]
      go_enter Tryz.func121, Tryz.ntmps121
      go_wp2
      go_ret
      exact ⟨rfl, rfl⟩
    · rw [show decide (hasC T c) = false from decide_eq_false fun h9 => h2 h9.2]
      go_enter Tryz.func121, Tryz.ntmps121
      go_wp2
      go_ret
      exact ⟨rfl, rfl⟩
  · rw [show decide (hasC T c) = false from decide_eq_false fun h9 => h1 h9.1]
    go_enter Tryz.func121, Tryz.ntmps121
    go_wp2
    go_ret
    exact ⟨rfl, rfl⟩

theorem turned_calls (n k : Nat) (hk : k = 1 ∨ k = 2) (hn : n < 32768) (w : World) : Calls Tryz.prog 122 #[.int .i64 (n : Int), .int .i64 (k : Int)] w fun e w' => e = .returned (.int .i64 ((n - n % 3 + (n + k) % 3 : Nat) : Int)) ∧ w' = w := by
  go_enter Tryz.func122, Tryz.ntmps122
  go_wp2
  go_ret
  refine ⟨?_, rfl⟩
  show Ending.returned (Value.int .i64 _) = Ending.returned (Value.int .i64 _)
  congr 2
  omega
set_option maxRecDepth 20000 in
theorem next_calls {w : World} {B g gm : Nat} {N : Int} {T : List T3} {vt vf : Value} (h : TabAt w B g N T vt gm vf) (c : Int) :
    Calls Tryz.prog 78 #[.pointer (some ⟨g, 0, none⟩), .int .i64 c] w fun e w' => e = .returned (.int .i64 (tNext T c)) ∧ w' = w := by
  have hfew := h.few
  have h1 := has_calls h c
  by_cases hc : hasC T c
  · obtain ⟨n, rfl⟩ : ∃ n : Nat, c = n := ⟨c.toNat, by have := hc.1; omega⟩
    have hlt : n < 32768 := by have := hc.2; omega
    have h2 := turned_calls n 1 (.inl rfl) hlt w
    rw [show tNext T n = ((n - n % 3 + (n + 1) % 3 : Nat) : Int) from by unfold tNext; rw [if_pos hc]; unfold nx; simp]
    rw [decide_eq_true hc] at h1
    have Hh := Lib.hid h; clear h; have Hh1 := Lib.hid h1; clear h1; have Hh2 := Lib.hid h2; clear h2; have Hhc := Lib.hid hc; clear hc
    go_enter Tryz.func78, Tryz.ntmps78
    go_wp2_with fail
    refine Hh1.out.mono ?_
    rintro e w' ⟨rfl, rfl⟩
    go_wp2_with fail
    refine Hh2.out.mono ?_
    rintro e w' ⟨rfl, rfl⟩
    go_wp2
    go_ret
    exact ⟨rfl, rfl⟩
  · rw [show tNext T c = -1 from by unfold tNext; rw [if_neg hc]]
    rw [decide_eq_false hc] at h1
    have Hh := Lib.hid h; clear h; have Hh1 := Lib.hid h1; clear h1; have Hhc := Lib.hid hc; clear hc
    go_enter Tryz.func78, Tryz.ntmps78
    go_wp2_with fail
    refine Hh1.out.mono ?_
    rintro e w' ⟨rfl, rfl⟩
    go_wp2
    go_ret
    exact ⟨rfl, rfl⟩
set_option maxRecDepth 20000 in
theorem prev_calls {w : World} {B g gm : Nat} {N : Int} {T : List T3} {vt vf : Value} (h : TabAt w B g N T vt gm vf) (c : Int) :
    Calls Tryz.prog 79 #[.pointer (some ⟨g, 0, none⟩), .int .i64 c] w fun e w' => e = .returned (.int .i64 (tPrev T c)) ∧ w' = w := by
  have hfew := h.few
  have h1 := has_calls h c
  by_cases hc : hasC T c
  · obtain ⟨n, rfl⟩ : ∃ n : Nat, c = n := ⟨c.toNat, by have := hc.1; omega⟩
    have hlt : n < 32768 := by have := hc.2; omega
    have h2 := turned_calls n 2 (.inr rfl) hlt w
    rw [show tPrev T n = ((n - n % 3 + (n + 2) % 3 : Nat) : Int) from by unfold tPrev; rw [if_pos hc]; unfold pv; simp]
    rw [decide_eq_true hc] at h1
    have Hh := Lib.hid h; clear h; have Hh1 := Lib.hid h1; clear h1; have Hh2 := Lib.hid h2; clear h2; have Hhc := Lib.hid hc; clear hc
    go_enter Tryz.func79, Tryz.ntmps79
    go_wp2_with fail
    refine Hh1.out.mono ?_
    rintro e w' ⟨rfl, rfl⟩
    go_wp2_with fail
    refine Hh2.out.mono ?_
    rintro e w' ⟨rfl, rfl⟩
    go_wp2
    go_ret
    exact ⟨rfl, rfl⟩
  · rw [show tPrev T c = -1 from by unfold tPrev; rw [if_neg hc]]
    rw [decide_eq_false hc] at h1
    have Hh := Lib.hid h; clear h; have Hh1 := Lib.hid h1; clear h1; have Hhc := Lib.hid hc; clear hc
    go_enter Tryz.func79, Tryz.ntmps79
    go_wp2_with fail
    refine Hh1.out.mono ?_
    rintro e w' ⟨rfl, rfl⟩
    go_wp2
    go_ret
    exact ⟨rfl, rfl⟩
theorem tri_cell {w : World} {B cap n : Nat} {A : Option Addr} {T : List T3} (h : Sl 3 RTri w B (.slice A T.length cap) T) (hn : n < 3 * T.length) :
    ∃ b o, A = some ⟨b, o, none⟩ ∧ b < B ∧ w.cell? ⟨b, o + n / 3 * 3 + n % 3, none⟩ = some (.int .i64 (Mesh.vt T n)) := by
  have hk : n / 3 < T.length := by omega
  obtain ⟨b, o, h1, h2, h3, h4, h5⟩ := h.tri_at hk
  refine ⟨b, o, h1, h2, ?_⟩
  have e : T.getD (n / 3) (0, 0, 0) = T[n / 3] := by rw [List.getD_eq_getElem?_getD, List.getElem?_eq_getElem hk]; rfl
  unfold Mesh.vt
  rw [e]
  rcases mod3 n with hm | hm | hm <;> rw [hm]
  · exact h3
  · exact h4
  · exact h5
set_option maxRecDepth 20000 in
theorem vertex_calls {w : World} {B g gm : Nat} {N : Int} {T : List T3} {vt vf : Value} (h : TabAt w B g N T vt gm vf) (c : Int) :
    Calls Tryz.prog 77 #[.pointer (some ⟨g, 0, none⟩), .int .i64 c] w fun e w' => e = .returned (.int .i64 (tVert T c)) ∧ w' = w := by
  obtain ⟨A, cap, hA, hcap⟩ := h.tris.form
  subst hA
  have c1 : w.cell? ⟨g, 1, none⟩ = some (.slice A T.length cap) := h.blk.cell 1
  have hfew := h.few
  have h1 := has_calls h c
  by_cases hc : hasC T c
  · obtain ⟨n, rfl⟩ : ∃ n : Nat, c = n := ⟨c.toNat, by have := hc.1; omega⟩
    have hlt : n < 3 * T.length := by have := hc.2; omega
    obtain ⟨b, o, rfl, hb, c3⟩ := tri_cell h.tris hlt
    rw [show tVert T n = Mesh.vt T n from by unfold tVert; rw [if_pos hc]; simp]
    rw [decide_eq_true hc] at h1
    generalize Mesh.vt T n = x at *
    have Hh := Lib.hid h; clear h; have Hh1 := Lib.hid h1; clear h1; have Hhc := Lib.hid hc; clear hc
    go_enter Tryz.func77, Tryz.ntmps77
    go_wp2_with fail
    refine Hh1.out.mono ?_
    rintro e w' ⟨rfl, rfl⟩
    go_wp2
    go_ret
    exact ⟨rfl, rfl⟩
  · rw [show tVert T c = -1 from by unfold tVert; rw [if_neg hc]]
    rw [decide_eq_false hc] at h1
    have Hh := Lib.hid h; clear h; have Hh1 := Lib.hid h1; clear h1; have Hhc := Lib.hid hc; clear hc
    go_enter Tryz.func77, Tryz.ntmps77
    go_wp2_with fail
    refine Hh1.out.mono ?_
    rintro e w' ⟨rfl, rfl⟩
    go_wp2
    go_ret
    exact ⟨rfl, rfl⟩
theorem vertices_calls {w : World} {B g gm : Nat} {N : Int} {T : List T3} {vt vf : Value} (h : TabAt w B g N T vt gm vf) :
    Calls Tryz.prog 91 #[.pointer (some ⟨g, 0, none⟩)] w fun e w' => e = .returned (.int .i64 N) ∧ w' = w := by
  have c1 : w.cell? ⟨g, 0, none⟩ = some (.int .i64 N) := h.blk.cell 0
  have Hh := Lib.hid h; clear h
  go_enter Tryz.func91, Tryz.ntmps91
  go_wp2
  go_ret
  exact ⟨rfl, rfl⟩
set_option maxRecDepth 20000 in
theorem edge_calls {w : World} {B g gm : Nat} {N : Int} {T : List T3} {vt vf : Value} (h : TabAt w B g N T vt gm vf) (c : Int) :
    Calls Tryz.prog 26 #[.pointer (some ⟨g, 0, none⟩), .int .i64 c] w fun e w' => e = .returned (enc2 (tEdge T c)) ∧ RowKit.Below w.heap.size w w' := by
  have hg := h.blk.lt
  have hA := h.alloc (.cells #[.int .i64 0, .int .i64 0] 39)
  have k1 := next_calls hA c
  have k2 := vertex_calls hA (tNext T c)
  have k3 := prev_calls hA c
  have k4 := vertex_calls hA (tPrev T c)
  change Calls Tryz.prog 26 _ _ fun e w' => e = .returned (.agg #[.int .i64 (tVert T (tNext T c)), .int .i64 (tVert T (tPrev T c))]) ∧ _
  generalize tVert T (tNext T c) = x at *
  generalize tVert T (tPrev T c) = y at *
  have Hh := Lib.hid h; clear h; have HhA := Lib.hid hA; clear hA; have Hk1 := Lib.hid k1; clear k1; have Hk2 := Lib.hid k2; clear k2; have Hk3 := Lib.hid k3; clear k3; have Hk4 := Lib.hid k4; clear k4
  go_enter Tryz.func26, Tryz.ntmps26
  go_wp2_with fail
  refine Hk1.out.mono ?_
  rintro e w' ⟨rfl, rfl⟩
  go_wp2_with fail
  refine Hk2.out.mono ?_
  rintro e w' ⟨rfl, rfl⟩
  go_wp2_with fail
  refine Hk3.out.mono ?_
  rintro e w' ⟨rfl, rfl⟩
  go_wp2_with fail
  refine Hk4.out.mono ?_
  rintro e w' ⟨rfl, rfl⟩
  go_wp2
  exact ret_cell rfl rfl (Bk.new w 39 [.int .i64 x, .int .i64 y]) Tryz.underlying39 rfl (by kernel_rfl) rfl ⟨rfl, (RowKit.Below.refl w.heap.size w).alloc (Nat.le_refl _) _⟩
end Go.Proofs.YtpbdcppaiafbgaaGreat
