/- Walks: certify's index, loop. Walks: certify's loop. Walks: certify's lonely. Walks: certify's keys of a triangle's edges. Walks: certify's pairs. Walks: certify's twice. Walks: certify's together. Walks: certify's together. Walks: certify's pinch. -/
import Derived.Test.YtpbdcppaiafbgaaGreatProg
import Derived.Test.YtpbdcppaiafbgaaGreatMap
import Derived.Test.YtpbdcppaiafbgaaGreatMesh
import Derived.BigGuardPart
import Derived.Lib.SliceRun
import Derived.WalkSpells
import Derived.WalkLawsBesides
import Derived.Orders
import Derived.KernelRfl
import Derived.LoopN
namespace Go.Words
open Go Go.RowKit Go.Mesh
def RTri : Rep T3 := fun _ _ t cs => cs = [.int .i64 t.1, .int .i64 t.2.1, .int .i64 t.2.2]
theorem keeps_tri : Keeps RTri := ⟨fun h _ _ => h⟩
theorem Sl.tri_at {w : World} {B n cap k : Nat} {A : Option Addr} {l : List T3} (h : Sl 3 RTri w B (.slice A n cap) l) (hk : k < l.length) :
    ∃ b o, A = some ⟨b, o, none⟩ ∧ b < B ∧ w.cell? ⟨b, o + k * 3, none⟩ = some (.int .i64 l[k].1) ∧ w.cell? ⟨b, o + k * 3 + 1, none⟩ = some (.int .i64 l[k].2.1) ∧ w.cell? ⟨b, o + k * 3 + 2, none⟩ = some (.int .i64 l[k].2.2) := by
  obtain ⟨b, o, cs, h1, h2, h3, h4, h5⟩ := h.at_ (List.getElem?_eq_getElem hk)
  unfold RTri at h4
  subst h4
  exact ⟨b, o, h1, h2, by simpa using h5 0 _ rfl, h5 1 _ rfl, h5 2 _ rfl⟩
def flat3 (l : List T3) : List Value := l.flatMap fun t => [.int .i64 t.1, .int .i64 t.2.1, .int .i64 t.2.2]
theorem flat3_snoc (l : List T3) (x : T3) : flat3 (l ++ [x]) = flat3 l ++ [.int .i64 x.1, .int .i64 x.2.1, .int .i64 x.2.2] := by unfold flat3; rw [List.flatMap_append]; rfl
end Go.Words
namespace Go.Mesh
def InR (N : Int) (t : T3) : Prop := (0 ≤ t.1 ∧ t.1 < N) ∧ (0 ≤ t.2.1 ∧ t.2.1 < N) ∧ (0 ≤ t.2.2 ∧ t.2.2 < N)
def Plain (N : Int) (T : List T3) : Prop := 0 ≤ N ∧ N ≤ 4096 ∧ T.length ≤ 8192 ∧ ∀ t ∈ T, InR N t
def Three (t : T3) : Prop := t.1 ≠ t.2.1 ∧ t.2.1 ≠ t.2.2 ∧ t.2.2 ≠ t.1
end Go.Mesh
namespace Go.Proofs.YtpbdcppaiafbgaaGreat
open Go Go.RowKit Go.Words Go.Mesh

theorem mixed : Tryz.prog.follows .mixedOrders = true := by kernel_rfl
theorem info_wit : (Tryz.prog.info? 48).map (fun i => (i.zero, i.size, i.bytes)) = some (some (.agg #[.int .i64 0, .int .i64 0, .int .i64 0]), 3, 24) := by kernel_rfl
theorem tri0 (x y z : Value) (w : World) : (Instr.index 57 (.agg #[x, y, z]) (.int .i64 0)).run Tryz.prog w = .ok x w := by kernel_rfl
theorem tri1 (x y z : Value) (w : World) : (Instr.index 57 (.agg #[x, y, z]) (.int .i64 1)).run Tryz.prog w = .ok y w := by kernel_rfl
theorem tri2 (x y z : Value) (w : World) : (Instr.index 57 (.agg #[x, y, z]) (.int .i64 2)).run Tryz.prog w = .ok z w := by kernel_rfl
def Wits (w : World) (base : Nat) (v : Value) (kind : Int) (good : Prop) : Prop := ∃ L : List T3, w.ownsRow base 48 3 v L.length (flat3 L) ∧ (L = [] ↔ good) ∧ (∀ x ∈ L, x.1 = kind) ∧ L.length ≤ 603979776

set_option maxRecDepth 20000 in
set_option maxHeartbeats 1000000 in
theorem index_calls (v : Value) (N : Int) (T : List T3) (w : World) {B : Nat} (hB0 : B ≤ w.heap.size) (h : Sl 3 RTri w B v T) (hN : -9223372036854775808 ≤ N ∧ N ≤ 9223372036854775807) :
    Calls Tryz.prog 145 #[.agg #[.int .i64 N, v]] w fun e w' => (∃ v', e = .returned v' ∧ Wits w' w.heap.size v' 1 (Plain N T)) ∧ Below w.heap.size w w' := by
  obtain ⟨A, cap, rfl, hcap⟩ := h.form
  have hbox := Bk.new w 24 [.int .i64 N, .slice A T.length cap]
  have hb1 := (Below.refl w.heap.size w).alloc (Nat.le_refl _) (.cells #[.int .i64 N, .slice A T.length cap] 24)
  have Hh := Lib.hid h; clear h
  by_cases hp : 0 ≤ N ∧ N ≤ 4096 ∧ T.length ≤ 8192
  case neg =>
    have hbad : ¬ Plain N T := fun h9 => hp ⟨h9.1, h9.2.1, h9.2.2.1⟩
    have Hhbad := Lib.hid hbad; clear hbad
    go_enter Tryz.func145, Tryz.ntmps145
    go_wp2
    all_goals first | (exfalso; omega) | skip
    all_goals
      go_ret
      refine ⟨⟨_, rfl, [(1, -1, 0)], ?_, ⟨fun h9 => (by cases h9), fun h9 => absurd h9 Hhbad.out⟩, by simp, by simp⟩, hb1.alloc (by rw [World.size_alloc]; omega) _⟩
      have h9 := World.ownsRow_lit (e := 48) (base := w.heap.size) (size := 3) (w.alloc (.cells #[.int .i64 N, .slice A T.length cap] 24)) #[.int .i64 1, .int .i64 (-1), .int .i64 0] 1 (by rw [World.size_alloc]; omega) (by unfold maxLen; omega) rfl
      rw [World.size_alloc] at h9
      exact h9
  case pos =>
    obtain ⟨p1, p2, p3⟩ := hp
    have HX : True := trivial
    have Hhbox := Lib.hid hbox; clear hbox
    go_enter Tryz.func145, Tryz.ntmps145
    go_wp2
    all_goals first | (exfalso; omega) | skip
    go_loopw [3, 27] (fun l i wr => ∃ (k : Nat) (L : List T3), k ≤ T.length ∧ i = .int .i64 k ∧ wr.ownsRow (w.heap.size + 1) 48 3 l L.length (flat3 L) ∧ (L = [] ↔ ∀ t ∈ T.take k, InR N t) ∧ (∀ x ∈ L, x.1 = 1) ∧ L.length ≤ k ∧
        Bk wr w.heap.size 24 [.int .i64 N, .slice A T.length cap] ∧ Below w.heap.size w wr)
      (fun _ i _ => T.length - (intOf i).toNat)
    case atStart => exact ⟨0, [], by omega, rfl, World.ownsRow_nil _ _ _ _, by simp, by simp, by simp, Hhbox.out, hb1⟩
    case round =>
      obtain ⟨k, L, hk, rfl, hown, hL, hkind, hlen, hbox, hbel⟩ := hrel
      have hz := hbel.size
      have hltb := hbox.lt
      by_cases hlt : k < T.length
      · obtain ⟨b, o, rfl, hb, c1, c2, c3⟩ := (Hh.out.below keeps_tri (hbel.mono hB0)).tri_at hlt
        have htk : T.take (k + 1) = T.take k ++ [T[k]] := List.take_succ_eq_append_getElem hlt
        have hin : (∀ t ∈ T.take (k + 1), InR N t) ↔ (∀ t ∈ T.take k, InR N t) ∧ InR N T[k] := by
          rw [htk]
          simp only [List.mem_append, List.mem_singleton]
          exact ⟨fun h9 => ⟨fun t ht => h9 t (.inl ht), h9 _ (.inr rfl)⟩, fun h9 t ht => ht.elim (h9.1 t) fun e => e ▸ h9.2⟩
        generalize hx : T[k] = x at *
        obtain ⟨x1, x2, x3⟩ := x
        simp only [] at c1 c2 c3
        have hboxA := hbox.alloc (.cells #[.int .i64 x1, .int .i64 x2, .int .i64 x3] 57)
        have o1 := hown.alloc (.cells #[.int .i64 x1, .int .i64 x2, .int .i64 x3] 57)
        have hbA := hbel.alloc hz (.cells #[.int .i64 x1, .int .i64 x2, .int .i64 x3] 57)
        obtain ⟨A5, cap5, rfl, hcap5⟩ := own_form hown
        have d1 : (wr.alloc (.cells #[.int .i64 x1, .int .i64 x2, .int .i64 x3] 57)).cell? ⟨w.heap.size, 0, none⟩ = some (.int .i64 N) := hboxA.cell 0
        have hbw : b < wr.heap.size := by omega
        have Hhown := Lib.hid hown; clear hown; have HhL := Lib.hid hL; clear hL; have Hhkind := Lib.hid hkind; clear hkind; have Hhtk := Lib.hid htk; clear htk; have Hhin := Lib.hid hin; clear hin; have Hhx := Lib.hid hx; clear hx; have Hhbox := Lib.hid hbox; clear hbox; have HhboxA := Lib.hid hboxA; clear hboxA; have Ho1 := Lib.hid o1; clear o1
        go_wp2_with fail
        clear c1 c2 c3
        obtain ⟨wo, hwo⟩ : ∃ wo : World, wo = wr.alloc (.cells #[.int .i64 x1, .int .i64 x2, .int .i64 x3] 57) := ⟨_, rfl⟩
        have hzo : wr.heap.size + 1 ≤ wo.heap.size := by rw [hwo]; simp
        rw [← hwo] at d1 hbA Ho1 HhboxA ⊢
        clear hwo
        go_loopw [3, 33] (fun l i wi => ∃ j : Int, 0 ≤ j ∧ j ≤ 3 ∧ i = .int .i64 j ∧ l = .slice A5 L.length cap5 ∧ (0 < j → 0 ≤ x1 ∧ x1 < N) ∧ (1 < j → 0 ≤ x2 ∧ x2 < N) ∧ (2 < j → 0 ≤ x3 ∧ x3 < N) ∧ wi = wo) (fun _ i _ => 3 - (intOf i).toNat)
        case atStart => exact ⟨0, by omega, by omega, rfl, rfl, by omega, by omega, by omega, rfl⟩
        case round =>
          obtain ⟨j, hj0, hj, rfl, rfl, g1, g2, g3, rfl⟩ := hrel
          have bad : ∀ (v1 : Value) (w1 : World), ¬ InR N (x1, x2, x3) → w1.ownsRow (w.heap.size + 1) 48 3 v1 (L.length + 1) (flat3 L ++ [.int .i64 1, .int .i64 (k : Int), .int .i64 0]) → Below (w.heap.size + 1) (wr.alloc (.cells #[.int .i64 1, .int .i64 k, .int .i64 0] 48)) w1 →
              w1.ownsRow (w.heap.size + 1) 48 3 v1 (L ++ [(1, (k : Int), 0)]).length (flat3 (L ++ [(1, (k : Int), 0)])) ∧ (L ++ [(1, (k : Int), 0)] = [] ↔ ∀ t ∈ T.take (k + 1), InR N t) ∧ (∀ x ∈ L ++ [(1, (k : Int), 0)], x.1 = 1) ∧ (L ++ [(1, (k : Int), 0)]).length ≤ k + 1 ∧
                Bk w1 w.heap.size 24 [.int .i64 N, .slice (some ⟨b, o, none⟩) T.length cap] ∧ Below w.heap.size w w1 := by
            intro v1 w1 hn ho hb9
            refine ⟨by rw [flat3_snoc, List.length_append]; exact ho, ⟨fun h9 => by simp at h9, fun h9 => absurd (Hhin.out.1 h9).2 hn⟩, fun x hx => ?_, by simp; omega, (HhboxA.out.alloc _).below hb9 (by omega), (hbA.alloc (by omega) _).trans (hb9.mono (by omega))⟩
            rcases List.mem_append.1 hx with h9 | h9
            · exact Hhkind.out x h9
            · have : x = (1, (k : Int), 0) := by simpa using h9
              rw [this]
          have good : InR N (x1, x2, x3) → (L = [] ↔ ∀ t ∈ T.take (k + 1), InR N t) := fun h9 => by rw [Hhin.out, HhL.out]; exact ⟨fun h8 => ⟨h8, h9⟩, fun h8 => h8.1⟩
          have Hbad := Lib.hid bad
          have Hgood := Lib.hid good
          clear bad good
          have ix0 := tri0
          have ix1 := tri1
          have ix2 := tri2
          have hj4 : j = 0 ∨ j = 1 ∨ j = 2 ∨ j = 3 := by omega
          rcases hj4 with rfl | rfl | rfl | rfl
          · clear g1 g2 g3
            by_cases hr : 0 ≤ x1 ∧ x1 < N
            · have hr1 := hr.1
              have hr2 := hr.2
              go_wp2
              all_goals first | (exfalso; omega) | skip
              exact ⟨⟨1, by omega, by omega, rfl, rfl, fun _ => hr, by omega, by omega, by first | rfl | trivial⟩, by simp [intOf]⟩
            · have hn : ¬ InR N (x1, x2, x3) := fun h9 => hr h9.1
              have Hn := Lib.hid hn
              clear hn
              go_wp2_with (at_builtin; refine append_block _ rfl (.tmp 44) (.tmp 47) 160 rfl (w.heap.size + 1) info_wit Tryz.underlying160 rfl (by omega) _ L.length (flat3 L) rfl (Ho1.out.alloc _) wr.heap.size [.int .i64 1, .int .i64 k, .int .i64 0] rfl (Bk.new _ _ _) rfl (by simp [Value.oneCell']) (by omega) (by omega) (by simp; omega) ?_; intro v1 w1 hown1 hb9 _ _; have Hhown1 := Lib.hid hown1; clear hown1)
              all_goals exact ⟨⟨k + 1, _, by omega, by simp, Hbad.out _ _ Hn.out Hhown1.out hb9⟩, by simp [intOf]; omega⟩
          · have G1 := Lib.hid (g1 (by omega))
            clear g1 g2 g3
            by_cases hr : 0 ≤ x2 ∧ x2 < N
            · have hr1 := hr.1
              have hr2 := hr.2
              go_wp2
              all_goals first | (exfalso; omega) | skip
              exact ⟨⟨2, by omega, by omega, rfl, rfl, fun _ => G1.out, fun _ => hr, by omega, by first | rfl | trivial⟩, by simp [intOf]⟩
            · have hn : ¬ InR N (x1, x2, x3) := fun h9 => hr h9.2.1
              have Hn := Lib.hid hn
              clear hn
              go_wp2_with (at_builtin; refine append_block _ rfl (.tmp 44) (.tmp 47) 160 rfl (w.heap.size + 1) info_wit Tryz.underlying160 rfl (by omega) _ L.length (flat3 L) rfl (Ho1.out.alloc _) wr.heap.size [.int .i64 1, .int .i64 k, .int .i64 0] rfl (Bk.new _ _ _) rfl (by simp [Value.oneCell']) (by omega) (by omega) (by simp; omega) ?_; intro v1 w1 hown1 hb9 _ _; have Hhown1 := Lib.hid hown1; clear hown1)
              all_goals exact ⟨⟨k + 1, _, by omega, by simp, Hbad.out _ _ Hn.out Hhown1.out hb9⟩, by simp [intOf]; omega⟩
          · have G1 := Lib.hid (g1 (by omega))
            have G2 := Lib.hid (g2 (by omega))
            clear g1 g2 g3
            by_cases hr : 0 ≤ x3 ∧ x3 < N
            · have hr1 := hr.1
              have hr2 := hr.2
              go_wp2
              all_goals first | (exfalso; omega) | skip
              exact ⟨⟨3, by omega, by omega, rfl, rfl, fun _ => G1.out, fun _ => G2.out, fun _ => hr, by first | rfl | trivial⟩, by simp [intOf]⟩
            · have hn : ¬ InR N (x1, x2, x3) := fun h9 => hr h9.2.2
              have Hn := Lib.hid hn
              clear hn
              go_wp2_with (at_builtin; refine append_block _ rfl (.tmp 44) (.tmp 47) 160 rfl (w.heap.size + 1) info_wit Tryz.underlying160 rfl (by omega) _ L.length (flat3 L) rfl (Ho1.out.alloc _) wr.heap.size [.int .i64 1, .int .i64 k, .int .i64 0] rfl (Bk.new _ _ _) rfl (by simp [Value.oneCell']) (by omega) (by omega) (by simp; omega) ?_; intro v1 w1 hown1 hb9 _ _; have Hhown1 := Lib.hid hown1; clear hown1)
              all_goals exact ⟨⟨k + 1, _, by omega, by simp, Hbad.out _ _ Hn.out Hhown1.out hb9⟩, by simp [intOf]; omega⟩
          · have hin9 : InR N (x1, x2, x3) := ⟨g1 (by omega), g2 (by omega), g3 (by omega)⟩
            have Hg := Lib.hid (Hgood.out hin9)
            clear hin9 g1 g2 g3
            have hbx := HhboxA.out
            have Hhbx := Lib.hid hbx; clear hbx
            go_wp2
            exact ⟨⟨k + 1, L, by omega, by simp, Ho1.out, Hg.out, Hhkind.out, by omega, Hhbx.out, hbA⟩, by simp [intOf]; omega⟩
      · have hkl : k = T.length := by omega
        subst hkl
        rw [List.take_length] at hL
        have hgd : L = [] ↔ Plain N T := by rw [hL]; exact ⟨fun h9 => ⟨p1, p2, p3, h9⟩, fun h9 => h9.2.2.2⟩
        have Hhown := Lib.hid hown; clear hown; have HhL := Lib.hid hL; clear hL; have Hhgd := Lib.hid hgd; clear hgd; have Hhkind := Lib.hid hkind; clear hkind; have Hhbox := Lib.hid hbox; clear hbox
        go_wp2
        go_ret
        exact ⟨⟨_, rfl, L, own_base Hhown.out (by omega), Hhgd.out, Hhkind.out, by omega⟩, hbel⟩
end Go.Proofs.YtpbdcppaiafbgaaGreat

namespace Go.Proofs.YtpbdcppaiafbgaaGreat
open Go Go.RowKit Go.Words Go.Mesh

set_option maxRecDepth 20000 in
set_option maxHeartbeats 1000000 in
theorem loop_calls (v : Value) (N : Int) (T : List T3) (w : World) {B : Nat} (hB0 : B ≤ w.heap.size) (h : Sl 3 RTri w B v T) (p3 : T.length ≤ 8192) :
    Calls Tryz.prog 146 #[.agg #[.int .i64 N, v]] w fun e w' => (∃ v', e = .returned v' ∧ Wits w' w.heap.size v' 2 (∀ t ∈ T, Three t)) ∧ Below w.heap.size w w' := by
  obtain ⟨A, cap, rfl, hcap⟩ := h.form
  have hb1 := (Below.refl w.heap.size w).alloc (Nat.le_refl _) (.cells #[.int .i64 N, .slice A T.length cap] 24)
  have Hh := Lib.hid h; clear h
  go_enter Tryz.func146, Tryz.ntmps146
  go_wp2
  go_loopw [3, 9] (fun l i wr => ∃ (k : Nat) (L : List T3), k ≤ T.length ∧ i = .int .i64 k ∧ wr.ownsRow w.heap.size 48 3 l L.length (flat3 L) ∧ (L = [] ↔ ∀ t ∈ T.take k, Three t) ∧ (∀ x ∈ L, x.1 = 2) ∧ L.length ≤ k ∧ Below w.heap.size w wr)
    (fun _ i _ => T.length - (intOf i).toNat)
  case atStart => exact ⟨0, [], by omega, rfl, World.ownsRow_nil _ _ _ _, by simp, by simp, by simp, hb1⟩
  case round =>
    obtain ⟨k, L, hk, rfl, hown, hL, hkind, hlen, hbel⟩ := hrel
    have hz := hbel.size
    by_cases hlt : k < T.length
    · obtain ⟨b, o, rfl, hb, c1, c2, c3⟩ := (Hh.out.below keeps_tri (hbel.mono hB0)).tri_at hlt
      have htk : T.take (k + 1) = T.take k ++ [T[k]] := List.take_succ_eq_append_getElem hlt
      have hin : (∀ t ∈ T.take (k + 1), Three t) ↔ (∀ t ∈ T.take k, Three t) ∧ Three T[k] := by
        rw [htk]
        simp only [List.mem_append, List.mem_singleton]
        exact ⟨fun h9 => ⟨fun t ht => h9 t (.inl ht), h9 _ (.inr rfl)⟩, fun h9 t ht => ht.elim (h9.1 t) fun e => e ▸ h9.2⟩
      generalize hx : T[k] = x at *
      obtain ⟨x1, x2, x3⟩ := x
      simp only [] at c1 c2 c3
      have hbA := hbel.alloc hz (.cells #[.int .i64 x1, .int .i64 x2, .int .i64 x3] 57)
      have o1 := hown.alloc (.cells #[.int .i64 x1, .int .i64 x2, .int .i64 x3] 57)
      obtain ⟨A5, cap5, rfl, hcap5⟩ := own_form hown
      have hbw : b < wr.heap.size := by omega
      have Hhown := Lib.hid hown; clear hown; have Hhx := Lib.hid hx; clear hx; have Hhtk := Lib.hid htk; clear htk; have Ho1 := Lib.hid o1; clear o1
      by_cases ht : x1 ≠ x2 ∧ x2 ≠ x3 ∧ x3 ≠ x1
      · have hL' : L = [] ↔ ∀ t ∈ T.take (k + 1), Three t := by rw [hin, hL]; exact ⟨fun h8 => ⟨h8, ht⟩, fun h8 => h8.1⟩
        obtain ⟨t1, t2, t3⟩ := ht
        have Hhin := Lib.hid hin; clear hin; have HhL := Lib.hid hL; clear hL; have HhL' := Lib.hid hL'; clear hL'; have Hhkind := Lib.hid hkind; clear hkind
        go_wp2
        exact ⟨⟨k + 1, L, by omega, by simp, Ho1.out, HhL'.out, Hhkind.out, by omega, hbA⟩, by simp [intOf]; omega⟩
      · have bad : L ++ [(2, (k : Int), 0)] = [] ↔ ∀ t ∈ T.take (k + 1), Three t := ⟨fun h9 => by simp at h9, fun h9 => absurd (hin.1 h9).2 ht⟩
        have kinds : ∀ x ∈ L ++ [(2, (k : Int), 0)], x.1 = 2 := by
          intro x hx
          rcases List.mem_append.1 hx with h9 | h9
          · exact hkind x h9
          · have : x = (2, (k : Int), 0) := by simpa using h9
            rw [this]
        have h3 : x1 = x2 ∨ (x1 ≠ x2 ∧ (x2 = x3 ∨ (x2 ≠ x3 ∧ x3 = x1))) := by omega
        have Hhin := Lib.hid hin; clear hin; have HhL := Lib.hid hL; clear hL; have Hhkind := Lib.hid hkind; clear hkind; have Hbad := Lib.hid bad; clear bad; have Hkinds := Lib.hid kinds; clear kinds
        clear ht
        rcases h3 with rfl | ⟨t1, rfl | ⟨t2, rfl⟩⟩
        all_goals
          go_wp2_with (at_builtin; refine append_block _ rfl (.tmp 33) (.tmp 36) 160 rfl w.heap.size info_wit Tryz.underlying160 rfl (by omega) _ L.length (flat3 L) rfl (Ho1.out.alloc _) (wr.heap.size + 1) [.int .i64 2, .int .i64 k, .int .i64 0] rfl (Bk.new' _ _ (by simp)) rfl (by simp [Value.oneCell']) (by omega) (by omega) (by simp; omega) ?_; intro v1 w1 hown1 hb9 _ _; have Hhown1 := Lib.hid hown1; clear hown1)
          exact ⟨⟨k + 1, _, by omega, by simp, by rw [flat3_snoc, List.length_append]; exact Hhown1.out, Hbad.out, Hkinds.out, by simp; omega, (hbA.alloc (by simp; omega) _).trans hb9⟩, by simp [intOf]; omega⟩
    · have hkl : k = T.length := by omega
      subst hkl
      rw [List.take_length] at hL
      have Hhown := Lib.hid hown; clear hown; have HhL := Lib.hid hL; clear hL; have Hhkind := Lib.hid hkind; clear hkind
      go_wp2
      go_ret
      exact ⟨⟨_, rfl, L, Hhown.out, HhL.out, Hhkind.out, by omega⟩, hbel⟩
end Go.Proofs.YtpbdcppaiafbgaaGreat

namespace Go.Words
open Go Go.RowKit
theorem run_make_rep {P : Program} (t : TypeId) {e : TypeId} {z : Value} {bytes : Nat} (ht : P.underlying t = some (.slice e)) (hinfo : (P.info? e).map (fun i => (i.zero, i.size, i.bytes)) = some (some z, 1, bytes)) (hzc : z.cells = #[z])
    (n : Nat) (hn : n ≤ 1000000) (hb : bytes ≤ 1000) (w : World) :
    (Instr.makeSlice t (.int .i64 (n : Int)) (.int .i64 (n : Int))).run P w = .ok (.slice (some ⟨w.heap.size, 0, none⟩) n n) (w.alloc (.cells (List.replicate n z).toArray e)) := by
  obtain ⟨i0, hi, hz0, hz1, hz2⟩ := info_parts hinfo
  have hby : bytes * n ≤ 281474976710656 := by
    have : bytes * n ≤ 1000 * 1000000 := Nat.mul_le_mul hb hn
    omega
  have h : (i0.bytes : Int) * (n : Int) ≤ 281474976710656 := by
    have h : ((i0.bytes * n : Nat) : Int) ≤ 281474976710656 := by rw [hz2]; omega
    rwa [Int.natCast_mul] at h
  have hr := run_make (P := P) w t e i0 z ht hi hz0 .i64 .i64 n n (by omega) (by omega) h (by omega)
  simp only [Int.toNat_natCast] at hr
  rw [hr, hz1, hzc, Nat.mul_one, ← toList_madeCells_one]
end Go.Words
namespace Go.Mesh
def HasV (t : T3) (v : Int) : Prop := v = t.1 ∨ v = t.2.1 ∨ v = t.2.2
def bvals (M : List Bool) : List Value := M.map fun b => .bool b
theorem bvals_set (M : List Bool) (i : Nat) : (bvals M).set i (.bool true) = bvals (M.set i true) := by unfold bvals; rw [List.map_set]
theorem marks_set (M : List Bool) (a i : Nat) (ha : a < M.length) : ((M.set a true).getD i false = true) ↔ (i = a ∨ M.getD i false = true) := by
  rw [List.getD_eq_getElem?_getD, List.getD_eq_getElem?_getD, List.getElem?_set]
  by_cases h : a = i
  · subst h; simp [ha]
  · simp only [h, if_false]
    exact ⟨.inr, fun h9 => h9.resolve_left fun e => h e.symm⟩
theorem marks_none (n u : Nat) : (List.replicate n false).getD u false = false := by
  rw [List.getD_eq_getElem?_getD, List.getElem?_replicate]; split <;> rfl
end Go.Mesh
namespace Go.Proofs.YtpbdcppaiafbgaaGreat
open Go Go.RowKit Go.Words Go.Mesh

theorem info_bool : (Tryz.prog.info? 4).map (fun i => (i.zero, i.size, i.bytes)) = some (some (.bool false), 1, 1) := by kernel_rfl

set_option maxRecDepth 20000 in
set_option maxHeartbeats 2000000 in
theorem lonely_calls (v : Value) (n : Nat) (T : List T3) (w : World) {B : Nat} (hB0 : B ≤ w.heap.size) (h : Sl 3 RTri w B v T) (hp : Plain n T) :
    Calls Tryz.prog 149 #[.agg #[.int .i64 (n : Int), v]] w fun e w' => (∃ v', e = .returned v' ∧ Wits w' w.heap.size v' 5 (∀ u : Nat, u < n → ∃ t ∈ T, HasV t u)) ∧ Below w.heap.size w w' := by
  obtain ⟨A, cap, rfl, hcap⟩ := h.form
  obtain ⟨p1, p2, p3, p4⟩ := hp
  have hb1 := (Below.refl w.heap.size w).alloc (Nat.le_refl _) (.cells #[.int .i64 n, .slice A T.length cap] 24)
  have hm1 := run_make_rep (P := Tryz.prog) 130 Tryz.underlying130 info_bool rfl n (by omega) (by omega)
  have hrep : List.replicate n (Value.bool false) = bvals (List.replicate n false) := by unfold bvals; rw [List.map_replicate]
  have hnew := Bk.new' (n := w.heap.size + 1) (w := w.alloc (.cells #[.int .i64 n, .slice A T.length cap] 24)) 4 (List.replicate n (.bool false)) (by simp)
  have hb2 := hb1.alloc (by simp) (.cells (List.replicate n (.bool false)).toArray 4)
  have Hh := Lib.hid h; clear h; have Hp4 := Lib.hid p4; clear p4; have Hhrep := Lib.hid hrep; clear hrep; have Hhnew := Lib.hid hnew; clear hnew
  go_enter Tryz.func149, Tryz.ntmps149
  go_wp2
  clear hm1
  go_loopw [17] (fun i wr => ∃ (k : Nat) (M : List Bool), k ≤ T.length ∧ i = .int .i64 k ∧ M.length = n ∧ (∀ u : Nat, M.getD u false = true ↔ ∃ t ∈ T.take k, HasV t u) ∧ Bk wr (w.heap.size + 1) 4 (bvals M) ∧ Below w.heap.size w wr)
    (fun i _ => T.length - (intOf i).toNat)
  case atStart => exact ⟨0, _, by omega, rfl, List.length_replicate, fun u => by rw [marks_none]; simp, by rw [← Hhrep.out]; exact Hhnew.out, hb2⟩
  case round =>
    obtain ⟨k, M, hk, rfl, hlen, hM, hbk, hbel⟩ := hrel
    have hz := hbel.size
    have hltb := hbk.lt
    by_cases hlt : k < T.length
    · obtain ⟨b, o, rfl, hb, c1, c2, c3⟩ := (Hh.out.below keeps_tri (hbel.mono hB0)).tri_at hlt
      have htk : T.take (k + 1) = T.take k ++ [T[k]] := List.take_succ_eq_append_getElem hlt
      have hin : ∀ u : Nat, (∃ t ∈ T.take (k + 1), HasV t u) ↔ (∃ t ∈ T.take k, HasV t u) ∨ HasV T[k] u := by
        intro u
        rw [htk]
        simp only [List.mem_append, List.mem_singleton]
        constructor
        · rintro ⟨t, ht | rfl, h9⟩
          · exact .inl ⟨t, ht, h9⟩
          · exact .inr h9
        · rintro (⟨t, ht, h9⟩ | h9)
          · exact ⟨t, .inl ht, h9⟩
          · exact ⟨_, .inr rfl, h9⟩
      have hr := Hp4.out _ (List.getElem_mem hlt)
      generalize hx : T[k] = x at *
      obtain ⟨x1, x2, x3⟩ := x
      unfold InR at hr
      simp only [] at c1 c2 c3 hr
      obtain ⟨⟨r1, r2⟩, ⟨r3, r4⟩, ⟨r5, r6⟩⟩ := hr
      obtain ⟨a1, rfl⟩ := Int.eq_ofNat_of_zero_le r1
      obtain ⟨a2, rfl⟩ := Int.eq_ofNat_of_zero_le r3
      obtain ⟨a3, rfl⟩ := Int.eq_ofNat_of_zero_le r5
      have hbA := hbel.alloc hz (.cells #[.int .i64 a1, .int .i64 a2, .int .i64 a3] 57)
      have hk1 := hbk.alloc (.cells #[.int .i64 a1, .int .i64 a2, .int .i64 a3] 57)
      have hbw : b < wr.heap.size := by omega
      have q1 := fun u => marks_set ((M.set a1 true).set a2 true) a3 u (by simp; omega)
      have q2 := fun u => marks_set (M.set a1 true) a2 u (by simp; omega)
      have q3 := fun u => marks_set M a1 u (by omega)
      have hM' : ∀ u : Nat, (((M.set a1 true).set a2 true).set a3 true).getD u false = true ↔ ∃ t ∈ T.take (k + 1), HasV t u := by
        intro u
        rw [q1, q2, q3, hin, hM]
        unfold HasV
        simp only []
        constructor
        · rintro (rfl | rfl | rfl | h9)
          · exact .inr (.inr (.inr rfl))
          · exact .inr (.inr (.inl rfl))
          · exact .inr (.inl rfl)
          · exact .inl h9
        · rintro (h9 | h9 | h9 | h9)
          · exact .inr (.inr (.inr h9))
          · exact .inr (.inr (.inl (by omega)))
          · exact .inr (.inl (by omega))
          · exact .inl (by omega)
      have ix0 := tri0
      have ix1 := tri1
      have ix2 := tri2
      have Hhx := Lib.hid hx; clear hx; have Hhtk := Lib.hid htk; clear htk; have Hhin := Lib.hid hin; clear hin; have HhM := Lib.hid hM; clear hM; have HhM' := Lib.hid hM'; clear hM'; have Hq1 := Lib.hid q1; clear q1; have Hq2 := Lib.hid q2; clear q2; have Hq3 := Lib.hid q3; clear q3; have Hhbk := Lib.hid hbk; clear hbk; have Hhk1 := Lib.hid hk1; clear hk1
      go_wp2_with fail
      clear c1 c2 c3
      obtain ⟨wo, hwo⟩ : ∃ wo : World, wo = wr.alloc (.cells #[.int .i64 a1, .int .i64 a2, .int .i64 a3] 57) := ⟨_, rfl⟩
      rw [← hwo] at hbA Hhk1 ⊢
      have hk1 := Hhk1.out
      have hzo : wr.heap.size + 1 ≤ wo.heap.size := by rw [hwo]; simp
      clear hwo
      have hk2 := hk1.set a1 (.bool true)
      have hk3 := hk2.set a2 (.bool true)
      have hk4 := hk3.set a3 (.bool true)
      rw [bvals_set, bvals_set, bvals_set] at hk4
      have hlb : (bvals M).length = n := by unfold bvals; simp [hlen]
      have f1 := hk1.frozen
      have f2 := hk2.frozen
      have f3 := hk3.frozen
      obtain ⟨u1, d1⟩ : ∃ u, wo.cell? ⟨w.heap.size + 1, a1, none⟩ = some u := by
        rw [hk1.cell]; exact ⟨_, List.getElem?_eq_getElem (by omega)⟩
      obtain ⟨u2, d2⟩ : ∃ u, (wo.setCell ⟨w.heap.size + 1, a1, none⟩ (.bool true)).cell? ⟨w.heap.size + 1, a2, none⟩ = some u := by
        rw [hk2.cell]; exact ⟨_, List.getElem?_eq_getElem (by simp; omega)⟩
      obtain ⟨u3, d3⟩ : ∃ u, ((wo.setCell ⟨w.heap.size + 1, a1, none⟩ (.bool true)).setCell ⟨w.heap.size + 1, a2, none⟩ (.bool true)).cell? ⟨w.heap.size + 1, a3, none⟩ = some u := by
        rw [hk3.cell]; exact ⟨_, List.getElem?_eq_getElem (by simp; omega)⟩
      have Hhk1 := Lib.hid hk1; clear hk1; have Hhk2 := Lib.hid hk2; clear hk2; have Hhk3 := Lib.hid hk3; clear hk3; have Hhk4 := Lib.hid hk4; clear hk4
      refine wp_loop_rounds 4 ?_
      rw [rounds_succ]
      go_wp2
      rw [rounds_succ]
      go_wp2
      rw [rounds_succ]
      go_wp2
      rw [rounds_succ]
      go_wp2
      exact ⟨⟨k + 1, _, by omega, by simp, by simp [hlen], HhM'.out, Hhk4.out, ((hbA.setCell (by simp) _).setCell (by simp) _).setCell (by simp) _⟩, by simp [intOf]; omega⟩
    · have hkl : k = T.length := by omega
      subst hkl
      rw [List.take_length] at hM
      obtain ⟨wo, hwo⟩ : ∃ wo : World, wo = wr := ⟨_, rfl⟩
      have HhM := Lib.hid hM; clear hM; have Hhbk := Lib.hid hbk; clear hbk
      go_wp2
      have HX : True := trivial
      go_loopw [8, 32] (fun l i wi => ∃ (k : Nat) (L : List T3), k ≤ n ∧ i = .int .i64 k ∧ wi.ownsRow (w.heap.size + 2) 48 3 l L.length (flat3 L) ∧ (L = [] ↔ ∀ u : Nat, u < k → M.getD u false = true) ∧ (∀ x ∈ L, x.1 = 5) ∧ L.length ≤ k ∧
          Bk wi (w.heap.size + 1) 4 (bvals M) ∧ Below w.heap.size w wi)
        (fun _ i _ => n - (intOf i).toNat)
      case atStart => exact ⟨0, [], by omega, rfl, World.ownsRow_nil _ _ _ _, by simp, by simp, by simp, Hhbk.out, hbel⟩
      case round =>
        obtain ⟨k, L, hk, rfl, hown, hL, hkind, hll, hbk, hbi⟩ := hrel
        have hzi := hbi.size
        have hlti := hbk.lt
        by_cases hlt : k < n
        · have d1 : wr.cell? ⟨w.heap.size + 1, k, none⟩ = some (.bool (M.getD k false)) := by
            rw [hbk.cell]; unfold bvals
            rw [List.getElem?_map, List.getElem?_eq_getElem (by omega), List.getD_eq_getElem?_getD, List.getElem?_eq_getElem (by omega)]; rfl
          have hst : (∀ u : Nat, u < k + 1 → M.getD u false = true) ↔ (∀ u : Nat, u < k → M.getD u false = true) ∧ M.getD k false = true :=
            ⟨fun h9 => ⟨fun u hu => h9 u (by omega), h9 k (by omega)⟩, fun h9 u hu => if he : u = k then he ▸ h9.2 else h9.1 u (by omega)⟩
          obtain ⟨A5, cap5, rfl, hcap5⟩ := own_form hown
          cases hmk : M.getD k false
          · rw [hmk] at d1 hst
            have bad : L ++ [(5, (k : Int), 0)] = [] ↔ ∀ u : Nat, u < k + 1 → M.getD u false = true := ⟨fun h9 => by simp at h9, fun h9 => by have := (hst.1 h9).2; cases this⟩
            have kinds : ∀ x ∈ L ++ [(5, (k : Int), 0)], x.1 = 5 := by
              intro x hx
              rcases List.mem_append.1 hx with h9 | h9
              · exact hkind x h9
              · have : x = (5, (k : Int), 0) := by simpa using h9
                rw [this]
            have hbk1 := hbk.alloc (.cells #[.int .i64 5, .int .i64 k, .int .i64 0] 48)
            have hbA := hbi.alloc hzi (.cells #[.int .i64 5, .int .i64 k, .int .i64 0] 48)
            have Hhown := Lib.hid hown; clear hown; have HhL := Lib.hid hL; clear hL; have Hhkind := Lib.hid hkind; clear hkind; have Hhbk := Lib.hid hbk; clear hbk; have Hhst := Lib.hid hst; clear hst; have Hhmk := Lib.hid hmk; clear hmk; have Hbad := Lib.hid bad; clear bad; have Hkinds := Lib.hid kinds; clear kinds; have Hhbk1 := Lib.hid hbk1; clear hbk1
            go_wp2_with (at_builtin; refine append_block _ rfl (.tmp 39) (.tmp 42) 160 rfl (w.heap.size + 2) info_wit Tryz.underlying160 rfl (by omega) _ L.length (flat3 L) rfl (Hhown.out.alloc _) wr.heap.size [.int .i64 5, .int .i64 k, .int .i64 0] rfl (Bk.new _ _ _) rfl (by simp [Value.oneCell']) (by omega) (by omega) (by simp; omega) ?_; intro v1 w1 hown1 hb9 _ _; have Hhown1 := Lib.hid hown1; clear hown1)
            exact ⟨⟨k + 1, _, by omega, by simp, by rw [flat3_snoc, List.length_append]; exact Hhown1.out, Hbad.out, Hkinds.out, by simp; omega, Hhbk1.out.below hb9 (by omega), hbA.trans (hb9.mono (by omega))⟩, by simp [intOf]; omega⟩
          · rw [hmk] at d1 hst
            have good : L = [] ↔ ∀ u : Nat, u < k + 1 → M.getD u false = true := by rw [hst, hL]; exact ⟨fun h9 => ⟨h9, rfl⟩, fun h9 => h9.1⟩
            have Hhown := Lib.hid hown; clear hown; have HhL := Lib.hid hL; clear hL; have Hhkind := Lib.hid hkind; clear hkind; have Hhbk := Lib.hid hbk; clear hbk; have Hhst := Lib.hid hst; clear hst; have Hhmk := Lib.hid hmk; clear hmk; have Hgood := Lib.hid good; clear good
            go_wp2
            exact ⟨⟨k + 1, L, by omega, by simp, Hhown.out, Hgood.out, Hhkind.out, by omega, Hhbk.out, hbi⟩, by simp [intOf]; omega⟩
        · have hkl : k = n := by omega
          subst hkl
          have good : L = [] ↔ ∀ u : Nat, u < k → ∃ t ∈ T, HasV t u := by
            rw [hL]
            exact ⟨fun h9 u hu => (HhM.out u).1 (h9 u hu), fun h9 u hu => (HhM.out u).2 (h9 u hu)⟩
          have Hhown := Lib.hid hown; clear hown; have HhL := Lib.hid hL; clear hL; have Hhkind := Lib.hid hkind; clear hkind; have Hhbk := Lib.hid hbk; clear hbk; have Hgood := Lib.hid good; clear good
          go_wp2
          go_ret
          exact ⟨⟨_, rfl, L, own_base Hhown.out (by omega), Hgood.out, Hhkind.out, by omega⟩, hbi⟩
end Go.Proofs.YtpbdcppaiafbgaaGreat

namespace Go.Mesh
def keys2 (t : T3) : List T3 := [(t.1, t.2.1, 0), (t.2.1, t.2.2, 0), (t.2.2, t.1, 0)]
end Go.Mesh
namespace Go.Proofs.YtpbdcppaiafbgaaGreat
open Go Go.RowKit Go.Words Go.Mesh

theorem flat3_at (l : List T3) : ∀ (i : Nat) (b : T3), l[i]? = some b → ((flat3 l).drop (i * 3)).take 3 = [.int .i64 b.1, .int .i64 b.2.1, .int .i64 b.2.2] := by
  induction l with
  | nil => intro i b h; simp at h
  | cons x l ih =>
    intro i b h
    cases i with
    | zero =>
      simp only [List.getElem?_cons_zero, Option.some.injEq] at h
      subst h
      rfl
    | succ i =>
      rw [List.getElem?_cons_succ] at h
      have := ih i b h
      unfold flat3 at this ⊢
      rw [List.flatMap_cons, Nat.succ_mul, Nat.add_comm (i * 3) 3, ← List.drop_drop]
      exact this
theorem flat3_len (l : List T3) : (flat3 l).length = l.length * 3 := by
  induction l with
  | nil => rfl
  | cons x l ih =>
    unfold flat3 at ih ⊢
    rw [List.flatMap_cons, List.length_append, ih, List.length_cons]
    simp
    omega
theorem block_tris {w : World} {g : Nat} {t : TypeId} {l : List T3} (hb : Bk w g t (flat3 l)) {cap : Nat} (hc : l.length ≤ cap) : Sl 3 RTri w w.heap.size (.slice (some ⟨g, 0, none⟩) l.length cap) l :=
  Sl.of_block hb hc fun i a hi => by
    have hlt := (List.getElem?_eq_some_iff.1 hi).1
    refine ⟨by rw [flat3_len]; omega, flat3_at l i a hi⟩

end Go.Proofs.YtpbdcppaiafbgaaGreat

namespace Go.Words
open Go Go.RowKit
theorem Bk.kept_own {w w' : World} {g base n size : Nat} {t e : TypeId} {cs xs : List Value} {v : Value} (h : Bk w g t cs) (hown : w.ownsRow base e size v n xs) (hne : e ≠ t) (hg : w.grownBy w' v.ownBlock) : Bk w' g t cs := by
  refine h.grown hg fun he => ?_
  rcases hown.2 with ⟨rfl, _⟩ | ⟨g', cap', cur', rfl, _, hh, _⟩
  · simp [Value.ownBlock] at he
  · have : g = g' := by simpa [Value.ownBlock] using he
    subst this
    unfold Bk at h
    rw [h] at hh
    injection hh with h2
    injection h2 with _ h3
    exact hne h3.symm
theorem Bk.kept_map {w w' : World} {g b : Nat} {t : TypeId} {cs : List Value} {κ α : Type} {enc : κ → Value} {ok : κ → Prop} {ev : α → Value} {l : List (κ × α)} (h : Bk w g t cs) (hm : Mp enc ok ev w b l) (hg : w.grownBy w' (some b)) : Bk w' g t cs := by
  refine h.grown hg fun he => ?_
  injection he with he
  subst he
  obtain ⟨es, clock, hb, _⟩ := hm.block
  unfold Bk at h
  rw [h] at hb
  cases hb
theorem Mp.kept_own {w w' : World} {b base n size : Nat} {e : TypeId} {xs : List Value} {v : Value} {κ α : Type} {enc : κ → Value} {ok : κ → Prop} {ev : α → Value} {l : List (κ × α)} (h : Mp enc ok ev w b l) (hown : w.ownsRow base e size v n xs) (hg : w.grownBy w' v.ownBlock) : Mp enc ok ev w' b l :=
  h.grown hg (h.no_row hown)
theorem own_kept_map {w w' : World} {b base n size : Nat} {e : TypeId} {xs : List Value} {v : Value} {κ α : Type} {enc : κ → Value} {ok : κ → Prop} {ev : α → Value} {l : List (κ × α)} (hown : w.ownsRow base e size v n xs) (h : Mp enc ok ev w b l) (hg : w.grownBy w' (some b)) : w'.ownsRow base e size v n xs :=
  hown.kept hg (.inr fun e => h.no_row hown e.symm)
theorem GRows.kept_map {w w' : World} {b base : Nat} {e : TypeId} {κ κ' α : Type} {lm : List (κ' × Value)} {G : List (κ' × List Nat)} {enc : κ → Value} {ok : κ → Prop} {ev : α → Value} {l : List (κ × α)} (h : GRows w base e lm G) (hm : Mp enc ok ev w b l) (hg : w.grownBy w' (some b)) : GRows w' base e lm G := by
  obtain ⟨es, clock, hb, _⟩ := hm.block
  exact h.kept hg (h.fam.not_map hb)
theorem GRows.kept_own {w w' : World} {base base' size n : Nat} {e e' : TypeId} {κ' : Type} {lm : List (κ' × Value)} {G : List (κ' × List Nat)} {v : Value} {xs : List Value} (h : GRows w base e lm G) (hown : w.ownsRow base' e' size v n xs) (hne : e' ≠ e) (hg : w.grownBy w' v.ownBlock) : GRows w' base e lm G := by
  rcases hown.2 with ⟨rfl, _⟩ | ⟨g', cap', cur', rfl, _, hh, _⟩
  · exact h.kept hg fun i hi => by
      cases hv : ((lm.map Prod.snd)[i]'hi).ownBlock with
      | none => exact .inl rfl
      | some k => right; simp [Value.ownBlock]
  · exact h.kept hg (h.fam.not_type hh hne)
theorem Mp.kept_map {w w' : World} {b b' : Nat} {κ α κ' α' : Type} {enc : κ → Value} {ok : κ → Prop} {ev : α → Value} {l : List (κ × α)} {enc' : κ' → Value} {ok' : κ' → Prop} {ev' : α' → Value} {l' : List (κ' × α')} (h : Mp enc ok ev w b l) (_ : Mp enc' ok' ev' w b' l') (hne : b ≠ b') (hg : w.grownBy w' (some b')) : Mp enc ok ev w' b l :=
  h.grown hg fun e => by injection e with e; exact hne e
end Go.Words
namespace Go.Proofs.YtpbdcppaiafbgaaGreat
open Go Go.RowKit Go.Words Go.Mesh

theorem rowOf_nil {κ : Type} [DecidableEq κ] (x : κ) : rowOf ([] : List (κ × List Nat)) x = [] := rfl
theorem info_int : (Tryz.prog.info? 3).map (fun i => (i.zero, i.size, i.bytes)) = some (some (.int .i64 0), 1, 8) := by kernel_rfl
theorem nodup_snoc {α : Type} (l : List α) (y : α) : (l ++ [y]).Nodup ↔ l.Nodup ∧ y ∉ l := by
  rw [List.nodup_append]
  constructor
  · rintro ⟨h8, _, h9⟩
    exact ⟨h8, fun hm => h9 _ hm _ (List.mem_singleton.2 rfl) rfl⟩
  · rintro ⟨h8, h9⟩
    refine ⟨h8, by simp, fun a ha c hc e => ?_⟩
    have : c = y := by simpa using hc
    subst this; subst e
    exact h9 ha
def evT : Unit → Value := fun _ => .bool true
structure PS (w : World) (h0 n : Nat) (kind : Int) (ks : List T3) (L : List T3) (S : List ((Int × Int) × Unit)) (lm : List (T3 × Value)) (G : List (T3 × List Nat)) : Prop where
  had : Mp enc3 ok3 id w (h0 + 1) lm
  rows : GRows w (h0 + 3) 3 lm G
  seen : Mp enc2 ok2 evT w (h0 + 2) S
  len : S.length = L.length
  keys : ∀ x, rowOf G x = [] ↔ x ∉ ks
  mem : ∀ x, (rowOf G x).length ≤ ks.length ∧ ∀ a ∈ rowOf G x, a < n
  good : L = [] ↔ ks.Nodup
  kinds : ∀ x ∈ L, x.1 = kind
  le : L.length ≤ ks.length * ks.length
theorem PS.below {w w' : World} {h0 n : Nat} {kind : Int} {ks L : List T3} {S : List ((Int × Int) × Unit)} {lm : List (T3 × Value)} {G : List (T3 × List Nat)} (h : PS w h0 n kind ks L S lm G) (hb : Below w.heap.size w w') : PS w' h0 n kind ks L S lm G :=
  { h with had := h.had.below hb h.had.lt, rows := h.rows.below hb (Nat.le_refl _), seen := h.seen.below hb h.seen.lt }
theorem PS.alloc {w : World} {h0 n : Nat} {kind : Int} {ks L : List T3} {S : List ((Int × Int) × Unit)} {lm : List (T3 × Value)} {G : List (T3 × List Nat)} (h : PS w h0 n kind ks L S lm G) (o : Obj) : PS (w.alloc o) h0 n kind ks L S lm G :=
  h.below ((Below.refl _ _).alloc (Nat.le_refl _) o)

set_option maxRecDepth 20000 in
set_option maxHeartbeats 4000000 in
theorem pairs_calls (g : Nat) (hgf : g = 165 ∨ g = 166) (kind : Int) (keysF : T3 → List T3) (v : Value) (N : Int) (T : List T3) (w : World) {B : Nat} (hB0 : B ≤ w.heap.size) (h : Sl 3 RTri w B v T) (p3 : T.length ≤ 8192)
    (hk : ∀ t w, t ∈ T → Calls Tryz.prog g #[enc3 t] w fun e w' => (∃ gk, e = .returned (.slice (some ⟨gk, 0, none⟩) (keysF t).length (keysF t).length) ∧ Bk w' gk 56 (flat3 (keysF t))) ∧ Below w.heap.size w w')
    (h3 : ∀ t, (keysF t).length ≤ 3) (hok : ∀ t ∈ T, ∀ x ∈ keysF t, ok3 x) :
    Calls Tryz.prog 164 #[.agg #[.int .i64 N, v], .int .i64 kind, .func (.func g) #[] #[]] w fun e w' => (∃ v', e = .returned v' ∧ Wits w' w.heap.size v' kind (T.flatMap keysF).Nodup) ∧ Below w.heap.size w w' := by
  obtain ⟨A, cap, rfl, hcap⟩ := h.form
  have hb1 := (((Below.refl w.heap.size w).alloc (Nat.le_refl _) (.cells #[.int .i64 N, .slice A T.length cap] 24)).alloc (by simp) (.map #[] 0)).alloc (by simp; omega) (.map #[] 0)
  have hmm := @run_makeMap Tryz.prog
  have m1 := (Mp.new' (enc := enc3) (ok := ok3) (ev := (id : Value → Value)) (κ := T3) (n := w.heap.size + 1) (w := w.alloc (.cells #[.int .i64 N, .slice A T.length cap] 24)) (by simp)).alloc (.map #[] 0)
  have m2 := Mp.new' (enc := enc2) (ok := ok2) (ev := evT) (κ := Int × Int) (n := w.heap.size + 2) (w := (w.alloc (.cells #[.int .i64 N, .slice A T.length cap] 24)).alloc (.map #[] 0)) (by simp)
  have hps : PS (((w.alloc (.cells #[.int .i64 N, .slice A T.length cap] 24)).alloc (.map #[] 0)).alloc (.map #[] 0)) w.heap.size T.length kind [] [] [] [] [] :=
    { had := m1, rows := GRows.nil _ _ _, seen := m2, len := rfl, keys := fun x => by rw [rowOf_nil]; simp, mem := fun x => by rw [rowOf_nil]; simp, good := by simp, kinds := by simp, le := by simp }
  clear m1 m2
  have Hh := Lib.hid h; clear h; have Hhps := Lib.hid hps; clear hps; have Hhk := Lib.hid hk; clear hk; have Hhok := Lib.hid hok; clear hok
  rcases hgf with rfl | rfl
  all_goals
    go_enter Tryz.func164, Tryz.ntmps164
    go_wp2
    clear hmm
    go_loopw [7, 22] (fun l i wr => ∃ (k : Nat) (L : List T3) (S : List ((Int × Int) × Unit)) (lm : List (T3 × Value)) (G : List (T3 × List Nat)), k ≤ T.length ∧ i = .int .i64 k ∧ wr.ownsRow (w.heap.size + 3) 48 3 l L.length (flat3 L) ∧
        PS wr w.heap.size T.length kind ((T.take k).flatMap keysF) L S lm G ∧ ((T.take k).flatMap keysF).length ≤ 3 * k ∧ Below w.heap.size w wr)
      (fun _ i _ => T.length - (intOf i).toNat)
    case atStart => exact ⟨0, [], [], [], [], by omega, rfl, World.ownsRow_nil _ _ _ _, by simpa using Hhps.out, by simp, hb1⟩
    case round =>
      obtain ⟨k, L, S, lm, G, hk9, rfl, hown, hps, hkl, hbel⟩ := hrel
      have hz := hbel.size
      have hz2 : w.heap.size + 2 < wr.heap.size := hps.seen.lt
      by_cases hlt : k < T.length
      · obtain ⟨b, o, rfl, hb, c1, c2, c3⟩ := (Hh.out.below keeps_tri (hbel.mono hB0)).tri_at hlt
        have htk : T.take (k + 1) = T.take k ++ [T[k]] := List.take_succ_eq_append_getElem hlt
        have hkT := fun w => Hhk.out T[k] w (List.getElem_mem hlt)
        have hokT := Hhok.out T[k] (List.getElem_mem hlt)
        have hk3 := h3 T[k]
        generalize hx : T[k] = x at *
        have hkeysS : (T.take (k + 1)).flatMap keysF = (T.take k).flatMap keysF ++ keysF x := by rw [htk, List.flatMap_append]; simp
        obtain ⟨x1, x2, x3⟩ := x
        simp only [] at c1 c2 c3
        generalize keysF (x1, x2, x3) = ys at *
        generalize hks0 : (T.take k).flatMap keysF = ks0 at *
        obtain ⟨A5, cap5, rfl, hcap5⟩ := own_form hown
        have hbw : b < wr.heap.size := by omega
        have hbA := hbel.alloc hz (.cells #[.int .i64 x1, .int .i64 x2, .int .i64 x3] 57)
        have hpsA := hps.alloc (.cells #[.int .i64 x1, .int .i64 x2, .int .i64 x3] 57)
        have hownA := hown.alloc (.cells #[.int .i64 x1, .int .i64 x2, .int .i64 x3] 57)
        have Hhown := Lib.hid hown; clear hown; have Hhps := Lib.hid hps; clear hps; have Hhtk := Lib.hid htk; clear htk; have Hhx := Lib.hid hx; clear hx; have HhkT := Lib.hid hkT; clear hkT; have HhokT := Lib.hid hokT; clear hokT; have HhkeysS := Lib.hid hkeysS; clear hkeysS; have Hhks0 := Lib.hid hks0; clear hks0; have HhpsA := Lib.hid hpsA; clear hpsA; have HhownA := Lib.hid hownA; clear hownA
        go_wp2_with fail
        refine (HhkT.out _).mono ?_
        rintro e w1 ⟨⟨gk, rfl, hgk⟩, hb9⟩
        have hbel1 := below_call hbA hb9 hbA.size
        have hz1 := hbel1.size
        have hps1 := HhpsA.out.below hb9
        have hown1 := own_below HhownA.out hb9 (Nat.le_refl _)
        have hz3 := hps1.seen.lt
        clear c1 c2 c3
        have Hhgk := Lib.hid hgk; clear hgk; have Hhps1 := Lib.hid hps1; clear hps1; have Hhown1 := Lib.hid hown1; clear hown1
        go_wp2
        obtain ⟨wo, hwo⟩ : ∃ wo : World, wo = w1 := ⟨_, rfl⟩
        go_loopw [7, 31] (fun l i wi => ∃ (m : Nat) (L : List T3) (S : List ((Int × Int) × Unit)) (lm : List (T3 × Value)) (G : List (T3 × List Nat)), m ≤ ys.length ∧ i = .int .i64 m ∧ wi.ownsRow (w.heap.size + 3) 48 3 l L.length (flat3 L) ∧
            PS wi w.heap.size T.length kind (ks0 ++ ys.take m) L S lm G ∧ Bk wi gk 56 (flat3 ys) ∧ Below w.heap.size w wi)
          (fun _ i _ => ys.length - (intOf i).toNat)
        case atStart => exact ⟨0, L, S, lm, G, by omega, rfl, Hhown1.out, by simpa using Hhps1.out, Hhgk.out, hbel1⟩
        case round =>
          clear hwo wo
          obtain ⟨m, L, S, lm, G, hm, rfl, hown, hps, hbk, hbel⟩ := hrel
          have hz := hbel.size
          have hz2 := hps.seen.lt
          by_cases hltm : m < ys.length
          · obtain ⟨b', o', hA', hb', c1, c2, c3⟩ := (block_tris (cap := ys.length) hbk (Nat.le_refl _)).tri_at hltm
            injection hA' with hA'
            injection hA' with e1 e2
            subst e1; subst e2
            simp only [Nat.zero_add] at c1 c2 c3
            have hoky := HhokT.out ys[m] (List.getElem_mem hltm)
            have htm : ys.take (m + 1) = ys.take m ++ [ys[m]] := List.take_succ_eq_append_getElem hltm
            generalize hy : ys[m] = y at *
            obtain ⟨y1, y2, y3⟩ := y
            simp only [] at c1 c2 c3
            have hkey := hps.keys (y1, y2, y3)
            have hmem := hps.mem (y1, y2, y3)
            obtain ⟨Av, capv, hv, hcapv⟩ := own_form (hps.rows.row (y1, y2, y3))
            generalize hg : rowOf G (y1, y2, y3) = grp at *
            have hv2 : ((Words.look lm (y1, y2, y3)).map id).getD (.slice none 0 0) = .slice Av grp.length capv := by rw [show ∀ o : Option Value, o.map id = o from fun o => by cases o <;> rfl]; exact hv
            have hM : (ks0 ++ ys.take m).length ≤ 3 * k + m := by rw [List.length_append, List.length_take]; omega
            have hML : L.length ≤ 603979776 := Nat.le_trans hps.le (Nat.le_trans (Nat.mul_le_mul (Nat.le_trans hM (show 3 * k + m ≤ 24576 by omega)) (Nat.le_trans hM (show 3 * k + m ≤ 24576 by omega))) (by omega))
            have hgl : grp.length ≤ (ks0 ++ ys.take m).length := hmem.1
            have hgl2 : grp.length ≤ 24576 := by omega
            obtain ⟨A6, cap6, rfl, hcap6⟩ := own_form hown
            have hbA := hbel.alloc hz (.cells #[.int .i64 y1, .int .i64 y2, .int .i64 y3] 56)
            have hpsA := hps.alloc (.cells #[.int .i64 y1, .int .i64 y2, .int .i64 y3] 56)
            have hownA := hown.alloc (.cells #[.int .i64 y1, .int .i64 y2, .int .i64 y3] 56)
            have hbkA := hbk.alloc (.cells #[.int .i64 y1, .int .i64 y2, .int .i64 y3] 56)
            have hgy := Bk.new wr 56 [.int .i64 y1, .int .i64 y2, .int .i64 y3]
            have hmp := hpsA.had
            have Hhown := Lib.hid hown; clear hown; have Hhps := Lib.hid hps; clear hps; have Hhbk := Lib.hid hbk; clear hbk; have Hhoky := Lib.hid hoky; clear hoky; have Hhtm := Lib.hid htm; clear htm; have Hhy := Lib.hid hy; clear hy; have Hhkey := Lib.hid hkey; clear hkey; have Hhmem := Lib.hid hmem; clear hmem; have Hhv := Lib.hid hv; clear hv; have Hhg := Lib.hid hg; clear hg; have Hhv2 := Lib.hid hv2; clear hv2; have HhpsA := Lib.hid hpsA; clear hpsA; have HhownA := Lib.hid hownA; clear hownA; have HhbkA := Lib.hid hbkA; clear hbkA; have Hhgy := Lib.hid hgy; clear hgy; have Hhmp := Lib.hid hmp; clear hmp
            go_wp2_with (at_lookup; refine wpList_look _ rfl _ _ 218 rfl 56 28 key3 Tryz.underlying218 zero_row (w.heap.size + 1) lm rfl Hhmp.out (y1, y2, y3) rfl Hhoky.out ?_; rw [Hhv2.out])
            obtain ⟨wo, hwo⟩ : ∃ wo : World, wo = wr.alloc (.cells #[.int .i64 y1, .int .i64 y2, .int .i64 y3] 56) := ⟨_, rfl⟩
            have hzo : wr.heap.size + 1 ≤ wo.heap.size := by rw [hwo]; simp
            rw [← hwo] at hbA HhpsA HhownA HhbkA Hhgy Hhmp ⊢
            clear hwo c1 c2 c3
            obtain ⟨gy, hgy9⟩ : ∃ gy, gy = wr.heap.size := ⟨_, rfl⟩
            rw [← hgy9] at Hhgy ⊢
            have hgy2 : w.heap.size + 3 ≤ gy := by omega
            clear hgy9
            go_loopw [7, 39] (fun l i wi => ∃ (j : Nat) (L' : List T3) (S' : List ((Int × Int) × Unit)), j ≤ grp.length ∧ i = .int .i64 j ∧ wi.ownsRow (w.heap.size + 3) 48 3 l L'.length (flat3 L') ∧
                Mp enc3 ok3 id wi (w.heap.size + 1) lm ∧ GRows wi (w.heap.size + 3) 3 lm G ∧ Mp enc2 ok2 evT wi (w.heap.size + 2) S' ∧ S'.length = L'.length ∧ (L' = [] ↔ L = [] ∧ j = 0) ∧ (∀ x ∈ L', x.1 = kind) ∧ L'.length ≤ L.length + j ∧
                Bk wi gk 56 (flat3 ys) ∧ Bk wi gy 56 [.int .i64 y1, .int .i64 y2, .int .i64 y3] ∧ Below w.heap.size w wi)
              (fun _ i _ => grp.length - (intOf i).toNat)
            case atStart => exact ⟨0, L, S, by omega, rfl, HhownA.out, HhpsA.out.had, HhpsA.out.rows, HhpsA.out.seen, HhpsA.out.len, by simp, HhpsA.out.kinds, by omega, HhbkA.out, Hhgy.out, hbA⟩
            case round =>
              obtain ⟨j, L', S', hj, rfl, hown, hhad, hrows, hseen, hlen, hgood, hkinds, hle, hbk, hgy, hbel⟩ := hrel
              have hz := hbel.size
              have hz2 := hseen.lt
              obtain ⟨A7, cap7, rfl, hcap7⟩ := own_form hown
              by_cases hltj : j < grp.length
              · have hrow := hrows.row (y1, y2, y3)
                rw [Hhv.out, Hhg.out] at hrow
                obtain ⟨b2, o2, rfl, hb2, c1⟩ := (ints_own hrow).int_at (k := j) (by simpa using hltj)
                rw [List.getElem_map] at c1
                have ha := Hhmem.out.2 _ (List.getElem_mem hltj)
                generalize grp[j] = a at *
                have hokp : ok2 ((a : Int), (k : Int)) := ⟨I64.nat (by omega), I64.nat (by omega)⟩
                have hseenA := hseen.alloc (.cells #[.int .i64 a, .int .i64 k] 38)
                have hhadA := hhad.alloc (.cells #[.int .i64 a, .int .i64 k] 38)
                have hownA := hown.alloc (.cells #[.int .i64 a, .int .i64 k] 38)
                have hrowsA := hrows.below ((Below.refl _ _).alloc (Nat.le_refl _) (.cells #[.int .i64 a, .int .i64 k] 38)) (Nat.le_refl _)
                have hbkA := hbk.alloc (.cells #[.int .i64 a, .int .i64 k] 38)
                have hgyA := hgy.alloc (.cells #[.int .i64 a, .int .i64 k] 38)
                have hbA := hbel.alloc hz (.cells #[.int .i64 a, .int .i64 k] 38)
                cases hsn : (Words.look S' ((a : Int), (k : Int))).isSome
                case true =>
                  have hs2 : ((Words.look S' ((a : Int), (k : Int))).map evT).getD (.bool false) = .bool true := by
                    obtain ⟨u, hu⟩ := Option.isSome_iff_exists.1 hsn
                    rw [hu]; rfl
                  have hL' : L' ≠ [] := by
                    intro h0
                    rw [h0] at hlen
                    have : S' = [] := List.eq_nil_of_length_eq_zero hlen
                    rw [this] at hsn
                    cases hsn
                  have hgood2 : L' = [] ↔ L = [] ∧ j + 1 = 0 := ⟨fun h9 => absurd h9 hL', fun h9 => by omega⟩
                  have Hhown := Lib.hid hown; clear hown; have Hhhad := Lib.hid hhad; clear hhad; have Hhrows := Lib.hid hrows; clear hrows; have Hhseen := Lib.hid hseen; clear hseen; have Hhgood := Lib.hid hgood; clear hgood; have Hhkinds := Lib.hid hkinds; clear hkinds; have Hhbk := Lib.hid hbk; clear hbk; have Hhgy := Lib.hid hgy; clear hgy; have Hhrow := Lib.hid hrow; clear hrow; have Hhokp := Lib.hid hokp; clear hokp; have HhseenA := Lib.hid hseenA; clear hseenA; have HhhadA := Lib.hid hhadA; clear hhadA; have HhownA := Lib.hid hownA; clear hownA; have HhrowsA := Lib.hid hrowsA; clear hrowsA; have HhbkA := Lib.hid hbkA; clear hbkA; have HhgyA := Lib.hid hgyA; clear hgyA; have Hhsn := Lib.hid hsn; clear hsn; have Hhs2 := Lib.hid hs2; clear hs2; have HhL' := Lib.hid hL'; clear hL'; have Hhgood2 := Lib.hid hgood2; clear hgood2
                  go_wp2_with (at_lookup; refine wpList_look _ rfl _ _ 219 rfl 38 4 key2 Tryz.underlying219 zero_bool (w.heap.size + 2) S' rfl HhseenA.out ((a : Int), (k : Int)) rfl Hhokp.out ?_; rw [Hhs2.out])
                  exact ⟨⟨j + 1, L', S', by omega, by simp, HhownA.out, HhhadA.out, HhrowsA.out, HhseenA.out, hlen, Hhgood2.out, Hhkinds.out, by omega, HhbkA.out, HhgyA.out, hbA⟩, by simp [intOf]; omega⟩
                case false =>
                  have hs2 : ((Words.look S' ((a : Int), (k : Int))).map evT).getD (.bool false) = .bool false := by
                    rw [Option.isSome_eq_false_iff, Option.isNone_iff_eq_none] at hsn
                    rw [hsn]; rfl
                  have hsl : (Words.put S' ((a : Int), (k : Int)) ()).length = S'.length + 1 := length_put_new _ (by rw [← look_isSome, hsn]; simp)
                  have hgood2 : L' ++ [(kind, (a : Int), (k : Int))] = [] ↔ L = [] ∧ j + 1 = 0 := ⟨fun h9 => by simp at h9, fun h9 => by omega⟩
                  have hkinds2 : ∀ x ∈ L' ++ [(kind, (a : Int), (k : Int))], x.1 = kind := by
                    intro x hx
                    rcases List.mem_append.1 hx with h9 | h9
                    · exact hkinds x h9
                    · have : x = (kind, (a : Int), (k : Int)) := by simpa using h9
                      rw [this]
                  have Hhown := Lib.hid hown; clear hown; have Hhhad := Lib.hid hhad; clear hhad; have Hhrows := Lib.hid hrows; clear hrows; have Hhseen := Lib.hid hseen; clear hseen; have Hhgood := Lib.hid hgood; clear hgood; have Hhkinds := Lib.hid hkinds; clear hkinds; have Hhbk := Lib.hid hbk; clear hbk; have Hhgy := Lib.hid hgy; clear hgy; have Hhrow := Lib.hid hrow; clear hrow; have Hhokp := Lib.hid hokp; clear hokp; have HhseenA := Lib.hid hseenA; clear hseenA; have HhhadA := Lib.hid hhadA; clear hhadA; have HhownA := Lib.hid hownA; clear hownA; have HhrowsA := Lib.hid hrowsA; clear hrowsA; have HhbkA := Lib.hid hbkA; clear hbkA; have HhgyA := Lib.hid hgyA; clear hgyA; have Hhsn := Lib.hid hsn; clear hsn; have Hhs2 := Lib.hid hs2; clear hs2; have Hhsl := Lib.hid hsl; clear hsl; have Hhgood2 := Lib.hid hgood2; clear hgood2; have Hhkinds2 := Lib.hid hkinds2; clear hkinds2
                  go_wp2_with (first
                    | (at_lookup; refine wpList_look _ rfl _ _ 219 rfl 38 4 key2 Tryz.underlying219 zero_bool (w.heap.size + 2) S' rfl HhseenA.out ((a : Int), (k : Int)) rfl Hhokp.out ?_; rw [Hhs2.out])
                    | (at_mapUpdate; refine wpList_put _ rfl _ _ _ 219 rfl 38 4 key2 Tryz.underlying219 (w.heap.size + 2) S' rfl HhseenA.out ((a : Int), (k : Int)) rfl Hhokp.out () rfl ?_; intro w2 hseen2 hgr2 hsz2; have hb2 := hbA.grown hgr2 (by simp; omega) (fun q hq => by cases hq; omega); have hz9 := hb2.size; have hsz3 : wr.heap.size + 1 ≤ w2.heap.size := (by rw [hsz2]; simp); have Hhseen2 := Lib.hid hseen2; clear hseen2; have Hhgr2 := Lib.hid hgr2; clear hgr2; clear hsz2)
                    | (at_builtin; refine append_block _ rfl (.tmp 52) (.tmp 57) 160 rfl (w.heap.size + 3) info_wit Tryz.underlying160 rfl (by omega) _ L'.length (flat3 L') rfl ((own_kept_map HhownA.out HhseenA.out Hhgr2.out).alloc _) w2.heap.size [.int .i64 kind, .int .i64 a, .int .i64 k] rfl (Bk.new _ _ _) rfl (by simp [Value.oneCell']) (by omega) (by omega) (by simp; omega) ?_; intro v1 w3 hown3 hb9 hgr3 _; have Hhown3 := Lib.hid hown3; clear hown3; have Hhgr3 := Lib.hid hgr3; clear hgr3))
                  have hownC := (own_kept_map HhownA.out HhseenA.out Hhgr2.out).alloc (.cells #[.int .i64 kind, .int .i64 a, .int .i64 k] 48)
                  have hbn := (Below.refl w2.heap.size w2).alloc (Nat.le_refl _) (.cells #[.int .i64 kind, .int .i64 a, .int .i64 k] 48)
                  exact ⟨⟨j + 1, _, _, by omega, by simp, by rw [flat3_snoc, List.length_append]; exact Hhown3.out, ((HhhadA.out.kept_map HhseenA.out (by omega) Hhgr2.out).alloc _).kept_own hownC Hhgr3.out, ((HhrowsA.out.kept_map HhseenA.out Hhgr2.out).below hbn (Nat.le_refl _)).kept_own hownC (by decide) Hhgr3.out,
                    (Hhseen2.out.alloc _).kept_own hownC Hhgr3.out, by rw [Hhsl.out, List.length_append, hlen]; rfl, Hhgood2.out, Hhkinds2.out, by simp; omega, ((HhbkA.out.kept_map HhseenA.out Hhgr2.out).alloc _).kept_own hownC (by decide) Hhgr3.out, ((HhgyA.out.kept_map HhseenA.out Hhgr2.out).alloc _).kept_own hownC (by decide) Hhgr3.out,
                    (hb2.alloc hz9 _).trans (hb9.mono (by omega))⟩, by simp [intOf]; omega⟩
              · have hjl : j = grp.length := by omega
                subst hjl
                have hrow := hrows.row (y1, y2, y3)
                rw [Hhv.out, Hhg.out] at hrow
                have hhadA := hhad.alloc (.cells #[.int .i64 k] 3)
                have hseenA := hseen.alloc (.cells #[.int .i64 k] 3)
                have hownA := hown.alloc (.cells #[.int .i64 k] 3)
                have hrowA := hrow.alloc (.cells #[.int .i64 k] 3)
                have hrowsA := hrows.below ((Below.refl _ _).alloc (Nat.le_refl _) (.cells #[.int .i64 k] 3)) (Nat.le_refl _)
                have hbkA := hbk.alloc (.cells #[.int .i64 k] 3)
                have hlit := Bk.new wr 3 [.int .i64 k]
                have hbA := hbel.alloc hz (.cells #[.int .i64 k] 3)
                have hv3 : id ((Words.look lm (y1, y2, y3)).getD (.slice none 0 0)) = .slice Av grp.length capv := Hhv.out
                have hv4 : Words.valOf (Words.ent lm (y1, y2, y3) (.slice none 0 0)) (y1, y2, y3) = .slice Av grp.length capv := by unfold Words.valOf; rw [look_ent]; exact Hhv.out
                have d0 : wr.cell? ⟨gy, 0, none⟩ = some (.int .i64 y1) := hgy.cell 0
                have d1 : wr.cell? ⟨gy, 1, none⟩ = some (.int .i64 y2) := hgy.cell 1
                have d2 : wr.cell? ⟨gy, 2, none⟩ = some (.int .i64 y3) := hgy.cell 2
                have hgyl := hgy.lt
                have Hhown := Lib.hid hown; clear hown; have Hhhad := Lib.hid hhad; clear hhad; have Hhrows := Lib.hid hrows; clear hrows; have Hhseen := Lib.hid hseen; clear hseen; have Hhgood := Lib.hid hgood; clear hgood; have Hhkinds := Lib.hid hkinds; clear hkinds; have Hhbk := Lib.hid hbk; clear hbk; have Hhgy := Lib.hid hgy; clear hgy; have Hhrow := Lib.hid hrow; clear hrow; have HhhadA := Lib.hid hhadA; clear hhadA; have HhseenA := Lib.hid hseenA; clear hseenA; have HhownA := Lib.hid hownA; clear hownA; have HhrowA := Lib.hid hrowA; clear hrowA; have HhrowsA := Lib.hid hrowsA; clear hrowsA; have HhbkA := Lib.hid hbkA; clear hbkA; have Hhlit := Lib.hid hlit; clear hlit; have Hhv3 := Lib.hid hv3; clear hv3; have Hhv4 := Lib.hid hv4; clear hv4
                go_wp2_with (first
                  | (at_builtin; refine append_block _ rfl (.tmp 62) (.tmp 64) 28 rfl (w.heap.size + 3) info_int Tryz.underlying28 rfl (by omega) _ grp.length (grp.map encI) rfl (own_kept_map HhrowA.out HhhadA.out Hhgr2.out) wr.heap.size [.int .i64 k] rfl (Hhlit.out.kept_map HhhadA.out Hhgr2.out) rfl (by simp [Value.oneCell']) (by omega) (by omega) (by omega) ?_; intro v1 w3 hown3 hb9 hgr3 hat3; have Hhown3 := Lib.hid hown3; clear hown3; have Hhgr3 := Lib.hid hgr3; clear hgr3; have Hhat3 := Lib.hid hat3; clear hat3)
                  | (refine wpList_entry _ rfl _ _ 218 rfl 56 28 key3 Tryz.underlying218 (.slice none 0 0) zero_row (w.heap.size + 1) lm rfl HhhadA.out (y1, y2, y3) rfl Hhoky.out ?_; intro st w2 hhad2 hst2 hgr2 hsz2; have hb2 := hbA.grown hgr2 (by simp; omega) (fun q hq => by cases hq; omega); have hz9 := hb2.size; have hsz3 : wr.heap.size + 1 ≤ w2.heap.size := (by rw [hsz2]; simp); rw [Hhv3.out]; have Hhhad2 := Lib.hid hhad2; clear hhad2; have Hhst2 := Lib.hid hst2; clear hst2; have Hhgr2 := Lib.hid hgr2; clear hgr2; clear hsz2)
                  | (refine wpList_stamp _ rfl _ _ _ 218 rfl 56 key3 (w.heap.size + 1) (Words.ent lm (y1, y2, y3) (.slice none 0 0)) rfl (Hhhad2.out.kept_own (own_kept_map HhrowA.out HhhadA.out Hhgr2.out) Hhgr3.out) (y1, y2, y3) st (Hhst2.out.grown Hhgr3.out (Hhhad2.out.no_row (own_kept_map HhrowA.out HhhadA.out Hhgr2.out))) rfl Hhoky.out v1 rfl ?_; intro w4 hhad4 hgr4 hsz4; have Hhhad4 := Lib.hid hhad4; clear hhad4; have Hhgr4 := Lib.hid hgr4; clear hgr4; clear hsz4))
                have own2 := own_kept_map HhrowA.out HhhadA.out Hhgr2.out
                have had3 := Hhhad2.out.kept_own own2 Hhgr3.out
                have l2 := own_kept_map HhownA.out HhhadA.out Hhgr2.out
                have l3 := l2.kept Hhgr3.out (own_apart own2 l2 (by decide))
                have rows2 := (HhrowsA.out.kept_map HhhadA.out Hhgr2.out).ent (y1, y2, y3)
                have seen2 := HhseenA.out.kept_map HhhadA.out (by omega) Hhgr2.out
                have bk2 := HhbkA.out.kept_map HhhadA.out Hhgr2.out
                have hL9 : (grp ++ [k]).map encI = grp.map encI ++ [.int .i64 (k : Int)] := by rw [List.map_append]; rfl
                have rows3 := rows2.put (x := (y1, y2, y3)) (v' := v1) (L' := grp ++ [k]) ((ent_keys G _ _ _).2 (.inl rfl)) (by rw [hL9, List.length_append]; exact Hhown3.out) (by rw [Hhv4.out]; exact Hhgr3.out) (by
                  rw [Hhv4.out]
                  exact Hhat3.out.imp id fun h9 => ⟨_, h9, Nat.le_refl _⟩)
                have e2 := nodup_snoc (ks0 ++ ys.take m) (y1, y2, y3)
                have hgoodN : L' = [] ↔ (ks0 ++ ys.take (m + 1)).Nodup := by
                  rw [Hhtm.out, ← List.append_assoc, e2, Hhgood.out, Hhps.out.good, ← Hhkey.out, List.length_eq_zero_iff]
                have hrowE : ∀ x, rowOf (Words.ent G (y1, y2, y3) []) x = rowOf G x := fun x => by unfold Words.rowOf; rw [look_ent]
                have hks1 : (ks0 ++ ys.take (m + 1)).length = (ks0 ++ ys.take m).length + 1 := by rw [Hhtm.out, ← List.append_assoc, List.length_append (bs := [_])]; rfl
                refine ⟨⟨m + 1, L', S', _, _, by omega, by simp, own_kept_map l3 had3 Hhgr4.out, { had := Hhhad4.out, rows := rows3.kept_map had3 Hhgr4.out, seen := (seen2.kept_own own2 Hhgr3.out).kept_map had3 (by omega) Hhgr4.out, len := hlen, keys := fun x => ?_, mem := fun x => ?_, good := hgoodN, kinds := Hhkinds.out, le := ?_ },
                  (bk2.kept_own own2 (by decide) Hhgr3.out).kept_map had3 Hhgr4.out, ((hb2.trans (hb9.mono (by omega))).grown Hhgr4.out (by have := hb9.size; omega) (fun q hq => by cases hq; omega))⟩, by simp [intOf]; omega⟩
                · rw [rowOf_put, hrowE, Hhtm.out, ← List.append_assoc]
                  by_cases hxy : (y1, y2, y3) = x
                  · subst hxy; simp
                  · rw [if_neg hxy, Hhps.out.keys x]
                    simp only [List.mem_append, List.mem_singleton, not_or]
                    exact ⟨fun h9 => ⟨h9, fun e => hxy e.symm⟩, fun h9 => h9.1⟩
                · rw [rowOf_put, hrowE, hks1]
                  by_cases hxy : (y1, y2, y3) = x
                  · rw [if_pos hxy]
                    refine ⟨by have := Hhmem.out.1; rw [List.length_append]; simp only [List.length_cons, List.length_nil]; omega, fun a ha => ?_⟩
                    rcases List.mem_append.1 ha with h9 | h9
                    · exact Hhmem.out.2 a h9
                    · have : a = k := by simpa using h9
                      omega
                  · rw [if_neg hxy]
                    have := Hhps.out.mem x
                    exact ⟨by omega, this.2⟩
                · rw [hks1]
                  have h8 := Hhps.out.le
                  have e9 : ((ks0 ++ ys.take m).length + 1) * ((ks0 ++ ys.take m).length + 1) = (ks0 ++ ys.take m).length * (ks0 ++ ys.take m).length + 2 * (ks0 ++ ys.take m).length + 1 := by
                    rw [Nat.add_mul, Nat.mul_add]; omega
                  omega
          · have hml : m = ys.length := by omega
            subst hml
            rw [List.take_length] at hps
            rw [← HhkeysS.out] at hps
            have Hhown := Lib.hid hown; clear hown; have Hhps := Lib.hid hps; clear hps; have Hhbk := Lib.hid hbk; clear hbk
            go_wp2
            have hks9 : ((T.take (k + 1)).flatMap keysF).length ≤ 3 * (k + 1) := by rw [HhkeysS.out, List.length_append]; omega
            exact ⟨⟨k + 1, L, S, lm, G, by omega, by simp, Hhown.out, Hhps.out, hks9, hbel⟩, by simp [intOf]; omega⟩
      · have hkl2 : k = T.length := by omega
        subst hkl2
        rw [List.take_length] at hps hkl
        have hle : L.length ≤ 603979776 := Nat.le_trans hps.le (Nat.le_trans (Nat.mul_le_mul (Nat.le_trans hkl (show 3 * T.length ≤ 24576 by omega)) (Nat.le_trans hkl (show 3 * T.length ≤ 24576 by omega))) (by omega))
        have Hhown := Lib.hid hown; clear hown; have Hhps := Lib.hid hps; clear hps
        go_wp2
        go_ret
        exact ⟨⟨_, rfl, L, own_base Hhown.out (by omega), Hhps.out.good, Hhps.out.kinds, hle⟩, hbel⟩
end Go.Proofs.YtpbdcppaiafbgaaGreat

namespace Go.Proofs.YtpbdcppaiafbgaaGreat
open Go Go.RowKit Go.Words Go.Mesh

set_option maxHeartbeats 1000000 in
theorem twicekeys_block (t : T3) (w : World) :
    Calls Tryz.prog 165 #[enc3 t] w fun e w' => (∃ gk, e = .returned (.slice (some ⟨gk, 0, none⟩) (keys2 t).length (keys2 t).length) ∧ Bk w' gk 56 (flat3 (keys2 t))) ∧ Below w.heap.size w w' := by
  obtain ⟨x1, x2, x3⟩ := t
  show Calls Tryz.prog 165 #[.agg #[.int .i64 x1, .int .i64 x2, .int .i64 x3]] w _
  go_enter Tryz.func165, Tryz.ntmps165
  go_wp2
  go_ret
  exact ⟨⟨_, rfl, Bk.new' (n := w.heap.size + 1) (w := w.alloc (.cells #[.int .i64 x1, .int .i64 x2, .int .i64 x3] 57)) 56 (flat3 (keys2 (x1, x2, x3))) (by simp)⟩, (by repeat (first | exact Below.refl _ _ | assumption | refine Below.drew ?_ | refine Below.setCell ?_ (by first | omega | (simp <;> omega)) _ | refine Below.alloc ?_ (by first | omega | (simp <;> omega)) _ | refine below_drewN ?_ _))⟩
theorem keys2_ok {N : Int} {T : List T3} (hp : Plain N T) : ∀ t ∈ T, ∀ x ∈ keys2 t, ok3 x := by
  intro t ht x hx
  obtain ⟨p1, p2, p3, p4⟩ := hp
  obtain ⟨⟨r1, r2⟩, ⟨r3, r4⟩, ⟨r5, r6⟩⟩ := p4 t ht
  have h0 : I64 0 := by unfold I64; omega
  have h1 : I64 t.1 := by unfold I64; omega
  have h2 : I64 t.2.1 := by unfold I64; omega
  have h3 : I64 t.2.2 := by unfold I64; omega
  unfold keys2 at hx
  simp only [List.mem_cons, List.not_mem_nil, or_false] at hx
  rcases hx with rfl | rfl | rfl
  · exact ⟨h1, h2, h0⟩
  · exact ⟨h2, h3, h0⟩
  · exact ⟨h3, h1, h0⟩
set_option maxHeartbeats 1000000 in
theorem twice_calls (v : Value) (N : Int) (T : List T3) (w : World) {B : Nat} (hB0 : B ≤ w.heap.size) (h : Sl 3 RTri w B v T) (hp : Plain N T) :
    Calls Tryz.prog 147 #[.agg #[.int .i64 N, v]] w fun e w' => (∃ v', e = .returned v' ∧ Wits w' w.heap.size v' 3 (T.flatMap keys2).Nodup) ∧ Below w.heap.size w w' := by
  have hc := fun w hB h => pairs_calls 165 (.inl rfl) 3 keys2 v N T w (B := B) hB h hp.2.2.1 (fun t w _ => twicekeys_block t w) (fun t => Nat.le_refl _) (keys2_ok hp)
  obtain ⟨A, cap, rfl, hcap⟩ := h.form
  have hb1 := (Below.refl w.heap.size w).alloc (Nat.le_refl _) (.cells #[.int .i64 N, .slice A T.length cap] 24)
  clear hp
  have Hh := Lib.hid h; clear h; have Hhc := Lib.hid hc; clear hc
  go_enter Tryz.func147, Tryz.ntmps147
  go_wp2_with fail
  refine (Hhc.out _ (by simp; omega) (Hh.out.below keeps_tri (hb1.mono hB0))).mono ?_
  rintro e w1 ⟨⟨v', rfl, L, o1, o2, o3, o4⟩, hb2⟩
  have hbel := below_call hb1 hb2 hb1.size
  have o1 := own_base o1 hb1.size
  have Ho1 := Lib.hid o1; clear o1; have Ho2 := Lib.hid o2; clear o2; have Ho3 := Lib.hid o3; clear o3; have Ho4 := Lib.hid o4; clear o4
  go_wp2
  go_ret
  exact ⟨⟨_, rfl, L, Ho1.out, Ho2.out, Ho3.out, Ho4.out⟩, hbel⟩
end Go.Proofs.YtpbdcppaiafbgaaGreat

namespace Go.Words
open Go Go.RowKit
theorem wpList_insert {P : Program} (w : World) {ops : Array Oper} {rest : List Oper} {o : Oper} {a : Act} {Q : Exit → Act → World → Prop} {κ α : Type} [DecidableEq κ] {enc : κ → Value} {ok : κ → Prop} {ev : α → Value}
    (hg : o.guard = none) (m x v : Operand) (t : TypeId) (hop : o.op = Op.insert t m x v) (k e : TypeId) (K : KeyT P k enc ok) (ht : P.underlying t = some (.map k e))
    (b : Nat) (l : List (κ × α)) (hm : a.eval m = .map (some b)) (hown : Mp enc ok ev w b l) (key : κ) (hx : a.eval x = enc key) (hkey : ok key) (val : α) (hv : a.eval v = ev val)
    (hK : ∀ w', Mp enc ok ev w' b (Words.put l key val) → w.grownBy w' (some b) → w'.heap.size = w.heap.size → wpList P ops Q rest (a.put o.dst undef) w') : wpList P ops Q (o :: rest) a w := by
  refine wpList_plain hg fun K' hK' => ?_
  obtain ⟨w', hrun, r1, r2, r3⟩ := hown.put_run K ht hkey val
  unfold Oper.wp
  simp [execOp, hop, hm, hx, hv, hrun, Result.andThen]
  exact hK' _ _ (hK w' r1 r2 r3)
theorem put_ent {κ α : Type} [DecidableEq κ] (l : List (κ × α)) (x : κ) (z v : α) : Words.put (ent l x z) x v = Words.put l x v := by
  unfold Words.ent
  by_cases hx : x ∈ l.map (·.1)
  · rw [if_pos ((look_isSome l x).2 hx)]
  · rw [if_neg (by rw [look_isSome]; exact hx), put_new v hx]
    induction l with
    | nil => simp [Words.put]
    | cons p l ih =>
      simp only [List.map_cons, List.mem_cons, not_or] at hx
      have hp : p.1 ≠ x := fun e => hx.1 e.symm
      simp [Words.put, hp, ih hx.2]
def mapSize (w : World) (b : Nat) : Nat := match w.heap[b]? with
  | some (.map es _) => es.size
  | _ => 0
def sliceLen : Value → Nat
  | .slice _ n _ => n
  | _ => 0
theorem Mp.msize {w : World} {b : Nat} {κ α : Type} {enc : κ → Value} {ok : κ → Prop} {ev : α → Value} {l : List (κ × α)} (h : Mp enc ok ev w b l) : mapSize w b = l.length := by
  obtain ⟨es, clock, hb, _, hl⟩ := h.block
  unfold mapSize
  rw [hb]
  have := congrArg List.length hl
  simpa using this
end Go.Words
namespace Go.Mesh
def triAt (T : List T3) (i : Nat) : T3 := T.getD i (0, 0, 0)
instance (t : T3) (u : Int) : Decidable (HasV t u) := by unfold HasV; exact inferInstance
def hasB (T : List T3) (u : Int) (i : Nat) : Bool := decide (HasV (triAt T i) u)
def AdjT (T : List T3) (v : Int) (i k : Nat) : Prop := ∃ u, u ≠ v ∧ HasV (triAt T i) u ∧ HasV (triAt T k) u
def ClosedT (T : List T3) (v : Int) (tris : List Nat) (P : Nat → Prop) : Prop := ∀ i k, i ∈ tris → k ∈ tris → P i → AdjT T v i k → P k
def Conn (T : List T3) (v : Int) (tris : List Nat) (t0 : Nat) : Prop := ∀ P : Nat → Prop, P t0 → ClosedT T v tris P → ∀ k ∈ tris, P k
theorem nodup_le {α : Type} [DecidableEq α] : ∀ (l m : List α), l.Nodup → (∀ x ∈ l, x ∈ m) → l.length ≤ m.length
  | [], m, _, _ => by simp
  | x :: l, m, hn, h => by
    rw [List.nodup_cons] at hn
    have hx := h x List.mem_cons_self
    have := nodup_le l (m.erase x) hn.2 fun y hy => (List.mem_erase_of_ne (fun e : y = x => hn.1 (e ▸ hy))).2 (h y (List.mem_cons_of_mem _ hy))
    rw [List.length_erase_of_mem hx] at this
    have hpos : 0 < m.length := List.length_pos_of_mem hx
    simp only [List.length_cons]
    omega
theorem nodup_all {α : Type} [DecidableEq α] {l m : List α} (hn : l.Nodup) (h : ∀ x ∈ l, x ∈ m) (hl : m.length ≤ l.length) : ∀ x ∈ m, x ∈ l := by
  intro x hx
  by_cases hxl : x ∈ l
  · exact hxl
  · have := nodup_le (x :: l) m (List.nodup_cons.2 ⟨hxl, hn⟩) fun y hy => (List.mem_cons.1 hy).elim (fun e => e ▸ hx) (h y)
    simp at this
    omega
structure Bfs (T : List T3) (v : Int) (tris : List Nat) (t0 : Nat) (R Q : List Nat) (open_ : Nat → Nat → Prop) : Prop where
  start : t0 ∈ R
  nodup : R.Nodup
  sub : ∀ r ∈ R, r ∈ tris
  reach : ∀ r ∈ R, ∀ P : Nat → Prop, P t0 → ClosedT T v tris P → P r
  wait : ∀ q ∈ Q, q ∈ R
  done : ∀ r ∈ R, r ∉ Q → ∀ k ∈ tris, AdjT T v r k → k ∈ R ∨ open_ r k
theorem Bfs.le {T : List T3} {v : Int} {tris : List Nat} {t0 : Nat} {R Q : List Nat} {o : Nat → Nat → Prop} (h : Bfs T v tris t0 R Q o) : R.length ≤ tris.length := nodup_le R tris h.nodup h.sub
theorem Bfs.end_ {T : List T3} {v : Int} {tris : List Nat} {t0 : Nat} {R : List Nat} (h : Bfs T v tris t0 R [] fun _ _ => False) (hn : tris.Nodup) : R.length = tris.length ↔ Conn T v tris t0 := by
  constructor
  · intro hl P p0 hc k hk
    exact h.reach k (nodup_all h.nodup h.sub (by omega) k hk) P p0 hc
  · intro hc
    have hall := hc (· ∈ R) h.start fun i k _ hk hi ha => (h.done i hi (by simp) k hk ha).elim id False.elim
    have h1 := h.le
    have h2 := nodup_le tris R hn hall
    omega
section
variable {T : List T3} {v : Int} {tris : List Nat} {t0 : Nat} {R Q : List Nat} {o o' : Nat → Nat → Prop}
theorem Bfs.begin_ (h0 : t0 ∈ tris) : Bfs T v tris t0 [t0] [t0] fun _ _ => False :=
  ⟨List.mem_singleton.2 rfl, by simp, fun r hr => by rw [List.mem_singleton.1 hr]; exact h0, fun r hr P hp _ => by rw [List.mem_singleton.1 hr]; exact hp, fun q hq => hq, fun r hr hq => absurd hr hq⟩
theorem Bfs.pop {i : Nat} (h : Bfs T v tris t0 R (i :: Q) fun _ _ => False) : Bfs T v tris t0 R Q fun r k => r = i ∧ AdjT T v i k :=
  ⟨h.start, h.nodup, h.sub, h.reach, fun q hq => h.wait q (List.mem_cons_of_mem _ hq), fun r hr hq k hk ha => by
    by_cases hri : r = i
    · subst hri; exact .inr ⟨rfl, ha⟩
    · exact .inl ((h.done r hr (fun hm => (List.mem_cons.1 hm).elim hri hq) k hk ha).elim id False.elim)⟩
theorem Bfs.mono (h : Bfs T v tris t0 R Q o) (ho : ∀ r k, k ∈ tris → o r k → k ∈ R ∨ o' r k) : Bfs T v tris t0 R Q o' :=
  ⟨h.start, h.nodup, h.sub, h.reach, h.wait, fun r hr hq k hk ha => (h.done r hr hq k hk ha).elim .inl (ho r k hk)⟩
theorem Bfs.push (h : Bfs T v tris t0 R Q o) {i k : Nat} (hk : k ∈ tris) (hkR : k ∉ R) (hi : i ∈ R) (ha : AdjT T v i k) (ho : ∀ r k', k' ∈ tris → o r k' → k' = k ∨ o' r k') : Bfs T v tris t0 (R ++ [k]) (Q ++ [k]) o' where
  start := List.mem_append.2 (.inl h.start)
  nodup := List.nodup_append.2 ⟨h.nodup, by simp, fun a hA c hc e => by simp at hc; subst hc; exact hkR (e ▸ hA)⟩
  sub := fun r hr => (List.mem_append.1 hr).elim (h.sub r) fun e => by rw [List.mem_singleton.1 e]; exact hk
  reach := fun r hr P hp hc => (List.mem_append.1 hr).elim (fun hr => h.reach r hr P hp hc) fun e => by
    rw [List.mem_singleton.1 e]
    exact hc i k (h.sub i hi) hk (h.reach i hi P hp hc) ha
  wait := fun q hq => (List.mem_append.1 hq).elim (fun hq => List.mem_append.2 (.inl (h.wait q hq))) fun e => List.mem_append.2 (.inr e)
  done := fun r hr hq k' hk' ha' => by
    have hrk : r ∉ [k] := fun hm => hq (List.mem_append.2 (.inr hm))
    have hrR := (List.mem_append.1 hr).resolve_right hrk
    rcases h.done r hrR (fun hm => hq (List.mem_append.2 (.inl hm))) k' hk' ha' with h1 | h1
    · exact .inl (List.mem_append.2 (.inl h1))
    · rcases ho r k' hk' h1 with h2 | h2
      · exact .inl (List.mem_append.2 (.inr (by rw [h2]; exact List.mem_singleton.2 rfl)))
      · exact .inr h2
end
end Go.Mesh

namespace Go.Mesh
theorem vx_has {t : T3} {u : Int} : HasV t u ↔ ∃ j, j < 3 ∧ vx t j = u := by
  unfold HasV
  constructor
  · rintro (h | h | h)
    · exact ⟨0, by omega, h.symm⟩
    · exact ⟨1, by omega, h.symm⟩
    · exact ⟨2, by omega, h.symm⟩
  · rintro ⟨j, hj, rfl⟩
    match j, hj with
    | 0, _ => exact .inl rfl
    | 1, _ => exact .inr (.inl rfl)
    | 2, _ => exact .inr (.inr rfl)
def firstV (t : T3) (j : Nat) (u : Int) : Bool := (List.range j).any fun i => vx t i == u
theorem firstV_zero (t : T3) (u : Int) : firstV t 0 u = false := rfl
theorem firstV_succ (t : T3) (j : Nat) (u : Int) : firstV t (j + 1) u = (firstV t j u || vx t j == u) := by
  unfold firstV
  rw [List.range_succ, List.any_append]
  simp
theorem firstV_three (t : T3) (u : Int) : firstV t 3 u = decide (HasV t u) := by
  rw [Bool.eq_iff_iff, decide_eq_true_eq, vx_has]
  unfold firstV
  rw [List.any_eq_true]
  simp
theorem firstV_new {t : T3} (h : Three t) {j : Nat} (hj : j < 3) : firstV t j (vx t j) = false := by
  obtain ⟨h1, h2, h3⟩ := h
  have hj4 : j = 0 ∨ j = 1 ∨ j = 2 := by omega
  rcases hj4 with rfl | rfl | rfl
  · rfl
  · simp [firstV_succ, firstV_zero, vx, h1]
  · simp [firstV_succ, firstV_zero, vx, h2]
    exact fun e => h3 e.symm
end Go.Mesh
namespace Go.Mesh
def O1 (T : List T3) (v : Int) (i : Nat) (x : T3) (j : Nat) : Nat → Nat → Prop := fun r k => r = i ∧ ∃ u, u ≠ v ∧ HasV x u ∧ HasV (triAt T k) u ∧ firstV x j u = false
def O2 (T : List T3) (v : Int) (i : Nat) (x : T3) (j : Nat) (grp : List Nat) (p : Nat) : Nat → Nat → Prop := fun r k => r = i ∧ ((∃ u, u ≠ v ∧ HasV x u ∧ HasV (triAt T k) u ∧ firstV x (j + 1) u = false) ∨ (HasV (triAt T k) (vx x j) ∧ k ∉ grp.take p))
theorem adj_O1 {T : List T3} {v : Int} {i k r : Nat} {x : T3} (hx : triAt T i = x) (h : r = i ∧ AdjT T v i k) : O1 T v i x 0 r k := by
  obtain ⟨rfl, u, h1, h2, h3⟩ := h
  rw [hx] at h2
  exact ⟨rfl, u, h1, h2, h3, rfl⟩
theorem O1_skip {T : List T3} {i j k r : Nat} {x : T3} (h : O1 T (vx x j) i x j r k) : O1 T (vx x j) i x (j + 1) r k := by
  obtain ⟨rfl, u, h1, h2, h3, h4⟩ := h
  refine ⟨rfl, u, h1, h2, h3, ?_⟩
  rw [firstV_succ, h4]
  simpa using fun e : vx x j = u => h1 e.symm
theorem O1_O2 {T : List T3} {v : Int} {i j k r : Nat} {x : T3} {grp : List Nat} (h : O1 T v i x j r k) : O2 T v i x j grp 0 r k := by
  obtain ⟨rfl, u, h1, h2, h3, h4⟩ := h
  refine ⟨rfl, ?_⟩
  by_cases hu : vx x j = u
  · right; rw [hu]; exact ⟨h3, by simp⟩
  · left
    refine ⟨u, h1, h2, h3, ?_⟩
    rw [firstV_succ, h4]
    simpa using hu
theorem O2_next {T : List T3} {v : Int} {i j k r p : Nat} {x : T3} {grp : List Nat} (hp : p < grp.length) (h : O2 T v i x j grp p r k) : k = grp[p] ∨ O2 T v i x j grp (p + 1) r k := by
  obtain ⟨rfl, h | ⟨h1, h2⟩⟩ := h
  · exact .inr ⟨rfl, .inl h⟩
  · by_cases hk : k = grp[p]
    · exact .inl hk
    · refine .inr ⟨rfl, .inr ⟨h1, fun hm => ?_⟩⟩
      rw [List.take_succ_eq_append_getElem hp] at hm
      exact (List.mem_append.1 hm).elim h2 fun e => hk (List.mem_singleton.1 e)
theorem O2_O1 {T : List T3} {v : Int} {i j k r : Nat} {x : T3} {tris : List Nat} (hk : k ∈ tris) (h : O2 T v i x j (tris.filter (hasB T (vx x j))) (tris.filter (hasB T (vx x j))).length r k) : O1 T v i x (j + 1) r k := by
  obtain ⟨rfl, h | ⟨h1, h2⟩⟩ := h
  · exact ⟨rfl, h⟩
  · rw [List.take_length] at h2
    exact absurd (List.mem_filter.2 ⟨hk, by unfold hasB; exact decide_eq_true h1⟩) h2
theorem O1_three {T : List T3} {v : Int} {i k r : Nat} {x : T3} : ¬ O1 T v i x 3 r k := by
  rintro ⟨_, u, _, h2, _, h4⟩
  rw [firstV_three, decide_eq_false_iff_not] at h4
  exact h4 h2
end Go.Mesh
namespace Go.Proofs.YtpbdcppaiafbgaaGreat
open Go Go.RowKit Go.Words Go.Mesh

theorem triJ (t : T3) (j : Nat) (hj : j < 3) (w : World) : (Instr.index 57 (.agg #[.int .i64 t.1, .int .i64 t.2.1, .int .i64 t.2.2]) (.int .i64 (j : Int))).run Tryz.prog w = .ok (.int .i64 (vx t j)) w := by
  have hj4 : j = 0 ∨ j = 1 ∨ j = 2 := by omega
  rcases hj4 with rfl | rfl | rfl
  · exact tri0 _ _ _ w
  · exact tri1 _ _ _ w
  · exact tri2 _ _ _ w
theorem vx_I64 {N : Int} {t : T3} (h : InR N t) (hN : N ≤ 4096) (j : Nat) : I64 (vx t j) ∧ 0 ≤ vx t j ∧ vx t j < N := by
  obtain ⟨⟨r1, r2⟩, ⟨r3, r4⟩, ⟨r5, r6⟩⟩ := h
  unfold I64
  match j with
  | 0 => simp only [vx]; omega
  | 1 => simp only [vx]; omega
  | (n + 2) => simp only [vx]; omega
structure Ends (w : World) (h0 : Nat) (T : List T3) (v : Int) (lm : List (Int × Value)) (G : List (Int × List Nat)) (row : Int → List Nat) : Prop where
  mp : Mp enc1 I64 id w (h0 + 1) lm
  rows : GRows w (h0 + 2) 3 lm G
  is : ∀ u, rowOf G u = if u = v then [] else row u

theorem mp_no_que {κ α : Type} {enc : κ → Value} {ok : κ → Prop} {ev : α → Value} {l : List (κ × α)} {w : World} {b base : Nat} {e : TypeId} {q : Value} {Q : List Nat} (h : Mp enc ok ev w b l) (hq : Que w base e q Q) : some b ≠ q.ownBlock := by
  obtain ⟨es, clock, hb, _⟩ := h.block
  obtain ⟨g, off, cap, cur, rfl, _, hg, _⟩ := hq
  intro he
  have : b = g := by simpa [Value.ownBlock] using he
  subst this
  rw [hb] at hg
  cases hg
theorem que_kept_map {κ α : Type} {enc : κ → Value} {ok : κ → Prop} {ev : α → Value} {l : List (κ × α)} {w w' : World} {b base : Nat} {e : TypeId} {q : Value} {Q : List Nat} (hq : Que w base e q Q) (h : Mp enc ok ev w b l) (hg : w.grownBy w' (some b)) : Que w' base e q Q :=
  hq.grown hg fun e => mp_no_que h hq e.symm
def keysR (R : List Nat) : List (Int × Unit) := R.map fun r : Nat => ((r : Int), ())
theorem keysR_mem (R : List Nat) (k : Nat) : (k : Int) ∈ (keysR R).map (·.1) ↔ k ∈ R := by
  unfold keysR
  rw [List.map_map, List.mem_map]
  constructor
  · rintro ⟨r, hr, he⟩
    have : r = k := by simp only [Function.comp] at he; omega
    exact this ▸ hr
  · intro h; exact ⟨k, h, rfl⟩
theorem keysR_put {R : List Nat} {k : Nat} (h : k ∉ R) : Words.put (keysR R) (k : Int) () = keysR (R ++ [k]) := by
  rw [put_new _ (by rw [keysR_mem]; exact h)]
  unfold keysR
  rw [List.map_append]; rfl
structure TState (w : World) (h0 bR : Nat) (T : List T3) (vv : Int) (lm : List (Int × Value)) (G : List (Int × List Nat)) (row : Int → List Nat) (q : Value) (R Q : List Nat) : Prop where
  que : Que w (h0 + 2) 3 q Q
  mp : Mp enc1 I64 evT w bR (keysR R)
  ends : Ends w h0 T vv lm G row
  qa : ∀ i (hi : i < (lm.map Prod.snd).length), ((lm.map Prod.snd)[i]'hi).ownBlock = none ∨ ((lm.map Prod.snd)[i]'hi).ownBlock ≠ q.ownBlock
  ne : bR ≠ h0 + 1
section
variable {w w2 w3 : World} {h0 bR : Nat} {T : List T3} {vv : Int} {lm : List (Int × Value)} {G : List (Int × List Nat)} {row : Int → List Nat} {q q' : Value} {R Q Q' : List Nat}
theorem TState.tail (h : TState w h0 bR T vv lm G row q R Q) (hq : Que w (h0 + 2) 3 q' Q') (hb : q'.ownBlock = q.ownBlock) : TState w h0 bR T vv lm G row q' R Q' :=
  ⟨hq, h.mp, h.ends, fun i hi => by rw [hb]; exact h.qa i hi, h.ne⟩
theorem TState.push {k : Nat} {o : Obj} (h : TState w h0 bR T vv lm G row q R Q) (hmp : Mp enc1 I64 evT w2 bR (keysR (R ++ [k]))) (hg2 : w.grownBy w2 (some bR)) (hq : Que w3 (h0 + 2) 3 q' (Q ++ [k])) (hg3 : (w2.alloc o).grownBy w3 q.ownBlock)
    (hat : q'.ownBlock = q.ownBlock ∨ q'.ownBlock = some (w2.alloc o).heap.size) : TState w3 h0 bR T vv lm G row q' (R ++ [k]) (Q ++ [k]) := by
  have q2 := que_kept_map h.que h.mp hg2
  have q2a := q2.below ((Below.refl w2.heap.size w2).alloc (Nat.le_refl _) o) (Nat.le_refl _)
  have m2 := (h.ends.mp.kept_map h.mp (fun e => h.ne e.symm) hg2).alloc o
  have r2 := (h.ends.rows.kept_map h.mp hg2).below ((Below.refl w2.heap.size w2).alloc (Nat.le_refl _) o) (Nat.le_refl _)
  have mpa := hmp.alloc o
  refine ⟨hq, mpa.grown hg3 (mp_no_que mpa q2a), ⟨m2.grown hg3 (mp_no_que m2 q2a), r2.kept hg3 h.qa, h.ends.is⟩, fun i hi => ?_, h.ne⟩
  rcases hat with hat | hat
  · rw [hat]; exact h.qa i hi
  · cases hb : ((lm.map Prod.snd)[i]'hi).ownBlock with
    | none => exact .inl rfl
    | some g =>
      right
      rw [hat]
      intro he
      injection he with he
      have hl := r2.fam.len
      have := ((r2.fam.own i (by simpa using hi) (by rw [← hl]; simpa using hi)).lt g (by simpa using hb)).2
      omega
end

set_option maxRecDepth 20000 in
set_option maxHeartbeats 4000000 in
theorem together_calls (v v2 : Value) (n : Nat) (vv : Int) (T : List T3) (tris : List Nat) (t0 : Nat) (w : World) {B : Nat} (hB0 : B ≤ w.heap.size) (h : Sl 3 RTri w B v T) (h2 : Sl 1 RInt w B v2 (tris.map fun n : Nat => (n : Int)))
    (hp : Plain n T) (hth : ∀ t ∈ T, Three t) (hn : tris.Nodup) (hlt : ∀ i ∈ tris, i < T.length) (hv : I64 vv) (ht0 : tris.head? = some t0) :
    Calls Tryz.prog 168 #[.agg #[.int .i64 (n : Int), v], .int .i64 vv, v2] w fun e w' => (∃ b, e = .returned (.bool b) ∧ (b = true ↔ Conn T vv tris t0)) ∧ Below w.heap.size w w' := by
  obtain ⟨A, cap, rfl, hcap⟩ := h.form
  obtain ⟨A2, cap2, rfl, hcap2⟩ := h2.form
  rw [List.length_map] at hcap2 ⊢
  obtain ⟨p1, p2, p3, p4⟩ := hp
  have hlen : tris.length ≤ 8192 := Nat.le_trans (nodup_le tris (List.range T.length) hn fun i hi => List.mem_range.2 (hlt i hi)) (by simpa using p3)
  have hbox := (Bk.new w 24 [.int .i64 n, .slice A T.length cap]).alloc (.map #[] 0)
  have hb1 := ((Below.refl w.heap.size w).alloc (Nat.le_refl _) (.cells #[.int .i64 n, .slice A T.length cap] 24)).alloc (by simp) (.map #[] 0)
  have hmm := @run_makeMap Tryz.prog
  have hends : Ends ((w.alloc (.cells #[.int .i64 n, .slice A T.length cap] 24)).alloc (.map #[] 0)) w.heap.size T vv [] [] (fun u => ([] : List Nat).filter (hasB T u)) :=
    ⟨Mp.new' (enc := enc1) (ok := I64) (ev := (id : Value → Value)) (κ := Int) (n := w.heap.size + 1) (w := w.alloc (.cells #[.int .i64 n, .slice A T.length cap] 24)) (by simp), GRows.nil _ _ _, fun u => by rw [rowOf_nil]; simp⟩
  have Hh := Lib.hid h; clear h; have Hh2 := Lib.hid h2; clear h2; have Hp4 := Lib.hid p4; clear p4; have Hhth := Lib.hid hth; clear hth; have Hhn := Lib.hid hn; clear hn; have Hhlt := Lib.hid hlt; clear hlt; have Hhv := Lib.hid hv; clear hv; have Hht0 := Lib.hid ht0; clear ht0; have Hhbox := Lib.hid hbox; clear hbox; have Hhends := Lib.hid hends; clear hends
  go_enter Tryz.func168, Tryz.ntmps168
  go_wp2
  clear hmm
  go_loopw [22] (fun i wr => ∃ (m : Nat) (lm : List (Int × Value)) (G : List (Int × List Nat)), m ≤ tris.length ∧ i = .int .i64 m ∧ Ends wr w.heap.size T vv lm G (fun u => (tris.take m).filter (hasB T u)) ∧ Bk wr w.heap.size 24 [.int .i64 n, .slice A T.length cap] ∧ Below w.heap.size w wr)
    (fun i _ => tris.length - (intOf i).toNat)
  case atStart => exact ⟨0, [], [], by omega, rfl, Hhends.out, Hhbox.out, hb1⟩
  case round =>
    obtain ⟨m, lm, G, hm, rfl, hends, hbox, hbel⟩ := hrel
    have hz := hbel.size
    have hz2 : w.heap.size + 1 < wr.heap.size := hends.mp.lt
    by_cases hltm : m < tris.length
    · obtain ⟨b2, o2, hA2, hb2, c0⟩ := (Hh2.out.below keeps_int (hbel.mono hB0)).int_at (k := m) (by simpa using hltm)
      subst hA2
      rw [List.getElem_map] at c0
      have hi := Hhlt.out _ (List.getElem_mem hltm)
      have htk : tris.take (m + 1) = tris.take m ++ [tris[m]] := List.take_succ_eq_append_getElem hltm
      generalize hie : tris[m] = i at *
      obtain ⟨b, o, hA, hb, c1, c2, c3⟩ := (Hh.out.below keeps_tri (hbel.mono hB0)).tri_at hi
      subst hA
      have hInR := Hp4.out _ (List.getElem_mem hi)
      have hThree := Hhth.out _ (List.getElem_mem hi)
      have hat : triAt T i = T[i] := by unfold triAt; rw [List.getD_eq_getElem?_getD, List.getElem?_eq_getElem hi]; rfl
      have d1 : wr.cell? ⟨w.heap.size, 1, none⟩ = some (.slice (some ⟨b, o, none⟩) T.length cap) := hbox.cell 1
      generalize hx : T[i] = x at *
      have hix := fun j hj w => triJ x j hj w
      have Hhends := Lib.hid hends; clear hends; have Hhbox := Lib.hid hbox; clear hbox; have Hhtk := Lib.hid htk; clear htk; have Hhie := Lib.hid hie; clear hie; have HhInR := Lib.hid hInR; clear hInR; have HhThree := Lib.hid hThree; clear hThree; have Hhat := Lib.hid hat; clear hat; have Hhx := Lib.hid hx; clear hx; have Hhix := Lib.hid hix; clear hix
      go_wp2
      go_loopw [31] (fun jv wi => ∃ (j : Nat) (lm : List (Int × Value)) (G : List (Int × List Nat)), j ≤ 3 ∧ jv = .int .i64 j ∧ Ends wi w.heap.size T vv lm G (fun u => (tris.take m).filter (hasB T u) ++ if firstV x j u then [i] else []) ∧ Bk wi w.heap.size 24 [.int .i64 n, .slice (some ⟨b, o, none⟩) T.length cap] ∧ Below w.heap.size w wi)
        (fun jv _ => 3 - (intOf jv).toNat)
      case atStart => exact ⟨0, lm, G, by omega, rfl, by simpa [firstV_zero] using Hhends.out, Hhbox.out, hbel⟩
      case round =>
        clear c0 c1 c2 c3 d1
        obtain ⟨j, lm, G, hj, rfl, hends, hbox, hbel⟩ := hrel
        have hz := hbel.size
        have hz2 : w.heap.size + 1 < wr.heap.size := hends.mp.lt
        by_cases hltj : j < 3
        · have ix := Hhix.out j hltj
          obtain ⟨hok, hu1, hu2⟩ := vx_I64 HhInR.out p2 j
          have hnew := firstV_new HhThree.out hltj
          have hsucc := fun u => firstV_succ x j u
          generalize hue : vx x j = u0 at *
          have Hhends := Lib.hid hends; clear hends; have Hhbox := Lib.hid hbox; clear hbox; have Hhok := Lib.hid hok; clear hok; have Hhnew := Lib.hid hnew; clear hnew; have Hhsucc := Lib.hid hsucc; clear hsucc; have Hhue := Lib.hid hue; clear hue
          by_cases huv : u0 = vv
          · subst huv
            have hends2 : Ends wr w.heap.size T u0 lm G (fun u => (tris.take m).filter (hasB T u) ++ if firstV x (j + 1) u then [i] else []) :=
              ⟨Hhends.out.mp, Hhends.out.rows, fun u => by
                rw [Hhends.out.is u]
                by_cases hu : u = u0
                · rw [if_pos hu, if_pos hu]
                · rw [if_neg hu, if_neg hu]
                  have : (u0 == u) = false := by simpa using fun e : u0 = u => hu e.symm
                  simp only [Hhsucc.out u, this, Bool.or_false]⟩
            have Hhends2 := Lib.hid hends2; clear hends2
            go_wp2
            exact ⟨⟨j + 1, lm, G, by omega, by simp, Hhends2.out, Hhbox.out, hbel⟩, by simp [intOf]; omega⟩
          · have hrow0 := Hhends.out.rows.row u0
            obtain ⟨Av, capv, hv, hcapv⟩ := own_form hrow0
            have hrl : (rowOf G u0).length ≤ 8192 := by
              rw [Hhends.out.is u0, if_neg huv, Hhnew.out]
              simp only [Bool.false_eq_true, if_false, List.append_nil]
              exact Nat.le_trans (List.length_filter_le _ _) (by rw [List.length_take]; omega)
            have hrg : rowOf G u0 = (tris.take m).filter (hasB T u0) := by
              rw [Hhends.out.is u0, if_neg huv, Hhnew.out]; simp
            generalize hg : rowOf G u0 = grp at *
            have hv2 : ((Words.look lm u0).map id).getD (.slice none 0 0) = .slice Av grp.length capv := by rw [show ∀ o : Option Value, o.map id = o from fun o => by cases o <;> rfl]; exact hv
            have hrow := hrow0.alloc (.cells #[.int .i64 i] 3)
            rw [hv] at hrow
            have hmpA := Hhends.out.mp.alloc (.cells #[.int .i64 i] 3)
            have hrowsA := Hhends.out.rows.below ((Below.refl _ _).alloc (Nat.le_refl _) (.cells #[.int .i64 i] 3)) (Nat.le_refl _)
            have hboxA := Hhbox.out.alloc (.cells #[.int .i64 i] 3)
            have hbA := hbel.alloc hz (.cells #[.int .i64 i] 3)
            clear hrow0
            have Hhv := Lib.hid hv; clear hv; have Hhg := Lib.hid hg; clear hg; have Hhv2 := Lib.hid hv2; clear hv2; have Hhrow := Lib.hid hrow; clear hrow; have HhmpA := Lib.hid hmpA; clear hmpA; have HhrowsA := Lib.hid hrowsA; clear hrowsA; have HhboxA := Lib.hid hboxA; clear hboxA; have Hhrg := Lib.hid hrg; clear hrg
            go_wp2_with (first
              | (at_lookup; refine wpList_look _ rfl _ _ 221 rfl 3 28 keyI Tryz.underlying221 zero_row (w.heap.size + 1) lm rfl Hhends.out.mp u0 rfl Hhok.out ?_; rw [Hhv2.out])
              | (at_builtin; refine append_block _ rfl (.tmp 41) (.tmp 43) 28 rfl (w.heap.size + 2) info_int Tryz.underlying28 rfl (by omega) _ grp.length (grp.map encI) rfl Hhrow.out wr.heap.size [.int .i64 i] rfl (Bk.new _ _ _) rfl (by simp [Value.oneCell']) (by omega) (by omega) (by simp; omega) ?_; intro v1 w3 hown3 hb9 hgr3 hat3; have Hhown3 := Lib.hid hown3; clear hown3; have Hhgr3 := Lib.hid hgr3; clear hgr3; have Hhat3 := Lib.hid hat3; clear hat3)
              | (at_mapUpdate; refine wpList_put _ rfl _ _ _ 221 rfl 3 28 keyI Tryz.underlying221 (w.heap.size + 1) lm rfl (HhmpA.out.kept_own Hhrow.out Hhgr3.out) u0 rfl Hhok.out v1 rfl ?_; intro w4 hmp4 hgr4 hsz4; have Hhmp4 := Lib.hid hmp4; clear hmp4; have Hhgr4 := Lib.hid hgr4; clear hgr4; clear hsz4))
            have mp3 := HhmpA.out.kept_own Hhrow.out Hhgr3.out
            have hL9 : (grp ++ [i]).map encI = grp.map encI ++ [.int .i64 (i : Int)] := by rw [List.map_append]; rfl
            have hval : Words.valOf (Words.ent lm u0 (.slice none 0 0)) u0 = .slice Av grp.length capv := by unfold Words.valOf; rw [look_ent]; exact Hhv.out
            have rows3 := (HhrowsA.out.ent u0).put (x := u0) (v' := v1) (L' := grp ++ [i]) ((ent_keys G _ _ _).2 (.inl rfl)) (by rw [hL9, List.length_append]; exact Hhown3.out) (by rw [hval]; exact Hhgr3.out) (by
              rw [hval]
              exact Hhat3.out.imp id fun h9 => ⟨_, h9, by simp⟩)
            rw [put_ent, put_ent] at rows3
            refine ⟨⟨j + 1, _, _, by omega, by simp, { mp := Hhmp4.out, rows := rows3.kept_map mp3 Hhgr4.out, is := fun u => ?_ }, (HhboxA.out.kept_own Hhrow.out (by decide) Hhgr3.out).kept_map mp3 Hhgr4.out, (hbA.trans (hb9.mono (by omega))).grown Hhgr4.out (by have := hb9.size; simp at this; omega) (fun q hq => by cases hq; omega)⟩, by simp [intOf]; omega⟩
            rw [rowOf_put]
            by_cases hu : u0 = u
            · subst hu
              rw [if_pos rfl, if_neg huv, Hhrg.out, Hhsucc.out]
              simp
            · rw [if_neg hu, Hhends.out.is u]
              by_cases hu2 : u = vv
              · rw [if_pos hu2, if_pos hu2]
              · rw [if_neg hu2, if_neg hu2]
                have : (u0 == u) = false := by simpa using hu
                simp only [Hhsucc.out u, this, Bool.or_false]
        · have hj3 : j = 3 := by omega
          subst hj3
          have hends2 : Ends wr w.heap.size T vv lm G (fun u => (tris.take (m + 1)).filter (hasB T u)) :=
            ⟨hends.mp, hends.rows, fun u => by
              rw [hends.is u]
              by_cases hu : u = vv
              · rw [if_pos hu, if_pos hu]
              · rw [if_neg hu, if_neg hu, Hhtk.out, List.filter_append, firstV_three]
                congr 1
                have : hasB T u i = decide (HasV x u) := by unfold hasB; rw [Hhat.out]
                rw [List.filter_cons, this]
                simp⟩
          have Hhends := Lib.hid hends; clear hends; have Hhends2 := Lib.hid hends2; clear hends2; have Hhbox := Lib.hid hbox; clear hbox
          go_wp2
          exact ⟨⟨m + 1, lm, G, by omega, by simp, Hhends2.out, Hhbox.out, hbel⟩, by simp [intOf]; omega⟩
    · have hml : m = tris.length := by omega
      subst hml
      simp only [List.take_length] at hends
      obtain ⟨rest, htr⟩ : ∃ rest, tris = t0 :: rest := by
        have := Hht0.out
        cases tris with
        | nil => cases this
        | cons a l => simp at this; subst this; exact ⟨l, rfl⟩
      have h0mem : t0 ∈ tris := by rw [htr]; exact List.mem_cons_self
      have h0len : 0 < tris.length := List.length_pos_of_mem h0mem
      obtain ⟨b2, o2, hA2, hb2, c0⟩ := (Hh2.out.below keeps_int (hbel.mono hB0)).int_at (k := 0) (by simpa using h0len)
      subst hA2
      have e0 : tris[0] = t0 := by simp only [htr]; rfl
      rw [List.getElem_map, Nat.add_zero, e0] at c0
      have h0lt := Hhlt.out t0 h0mem
      have hok0 : I64 (t0 : Int) := I64.nat (by omega)
      have hnew : Mp enc1 I64 evT (wr.alloc (.map #[] 0)) wr.heap.size ([] : List (Int × Unit)) := Mp.new wr
      have hbA := hbel.alloc hz (.map #[] 0)
      have hmpA := hends.mp.alloc (.map #[] 0)
      have hrowsA := hends.rows.below ((Below.refl _ _).alloc (Nat.le_refl _) (.map #[] 0)) (Nat.le_refl _)
      have hboxA := hbox.alloc (.map #[] 0)
      have hmm := @run_makeMap Tryz.prog
      have his := hends.is
      obtain ⟨bR, hbR⟩ : ∃ bR, bR = wr.heap.size := ⟨_, rfl⟩
      have hb2w : b2 < wr.heap.size := by omega
      have Hhends := Lib.hid hends; clear hends; have Hhbox := Lib.hid hbox; clear hbox; have Hhtr := Lib.hid htr; clear htr; have Hh0mem := Lib.hid h0mem; clear h0mem; have He0 := Lib.hid e0; clear e0; have Hhok0 := Lib.hid hok0; clear hok0; have Hhnew := Lib.hid hnew; clear hnew; have HhmpA := Lib.hid hmpA; clear hmpA; have HhrowsA := Lib.hid hrowsA; clear hrowsA; have HhboxA := Lib.hid hboxA; clear hboxA; have Hhis := Lib.hid his; clear his; have HhbR := Lib.hid hbR; clear hbR
      go_wp2_with (refine wpList_insert _ rfl _ _ _ 85 rfl 3 4 keyI Tryz.underlying85 wr.heap.size [] rfl Hhnew.out (t0 : Int) rfl Hhok0.out () rfl ?_; intro w2 hmp2 hgr2 hsz2; have hb2' := hbA.grown hgr2 (by simp; omega) (fun q hq => by cases hq; omega); have hz9 := hb2'.size; have hsz3 : wr.heap.size + 1 ≤ w2.heap.size := (by rw [hsz2]; simp); have c2 := ((Below.refl wr.heap.size wr).alloc (Nat.le_refl _) (.map #[] 0)).grown hgr2 (by simp) (fun q hq => by cases hq; omega) |>.cell (p := ⟨b2, o2, none⟩) (by simp; omega) |>.trans c0; have Hhmp2 := Lib.hid hmp2; clear hmp2; have Hhgr2 := Lib.hid hgr2; clear hgr2; clear hsz2)
      have hst : TState (w2.alloc (.cells #[.int .i64 t0] 3)) w.heap.size wr.heap.size T vv lm G (fun u => tris.filter (hasB T u)) (.slice (some ⟨w2.heap.size, 0, none⟩) 1 1) [t0] [t0] := by
        have m2 := (HhmpA.out.kept_map Hhnew.out (by omega) Hhgr2.out).alloc (.cells #[.int .i64 t0] 3)
        have r2 := (HhrowsA.out.kept_map Hhnew.out Hhgr2.out).below ((Below.refl w2.heap.size w2).alloc (Nat.le_refl _) (.cells #[.int .i64 t0] 3)) (Nat.le_refl _)
        refine ⟨Que.one w2 _ t0 (by omega), Hhmp2.out.alloc _, ⟨m2, r2, Hhis.out⟩, fun i hi => ?_, by omega⟩
        cases hb : ((lm.map Prod.snd)[i]'hi).ownBlock with
        | none => exact .inl rfl
        | some g =>
          right
          intro he
          have hge : g = w2.heap.size := by simpa [Value.ownBlock] using he
          have r3 := HhrowsA.out.kept_map Hhnew.out Hhgr2.out
          have hl := r3.fam.len
          have := ((r3.fam.own i (by simpa using hi) (by rw [← hl]; simpa using hi)).lt g (by simpa using hb)).2
          omega
      have hbfs := Bfs.begin_ (T := T) (v := vv) Hh0mem.out
      have hbox2 := (HhboxA.out.kept_map Hhnew.out Hhgr2.out).alloc (.cells #[.int .i64 t0] 3)
      have hb3 := hb2'.alloc hz9 (.cells #[.int .i64 t0] 3)
      rw [← HhbR.out] at hst ⊢
      have hbR2 := HhbR.out
      have hbR3 : w.heap.size + 2 ≤ bR := by omega
      have Hhst := Lib.hid hst; clear hst; have Hhbfs := Lib.hid hbfs; clear hbfs; have Hhbox2 := Lib.hid hbox2; clear hbox2
      clear hbR2 c2 c0
      go_loopw [13] (fun q wi => ∃ (R Q : List Nat), TState wi w.heap.size bR T vv lm G (fun u => tris.filter (hasB T u)) q R Q ∧ Bfs T vv tris t0 R Q (fun _ _ => False) ∧ 2 * (tris.length - R.length) + Q.length ≤ 2 * tris.length ∧ Bk wi w.heap.size 24 [.int .i64 n, .slice A T.length cap] ∧ Below w.heap.size w wi)
        (fun q wi => 2 * (tris.length - mapSize wi bR) + sliceLen q)
      case atStart => exact ⟨[t0], [t0], Hhst.out, Hhbfs.out, by simp; omega, Hhbox2.out, hb3⟩
      case round =>
        obtain ⟨R, Q, hst, hbfs, hRQ, hbox, hbel⟩ := hrel
        have hz := hbel.size
        have hR := hst.mp.msize
        unfold keysR at hR
        rw [List.length_map] at hR
        obtain ⟨g, off, capq, hq, hcq⟩ := hst.que.form
        subst hq
        have hRl := hbfs.le
        cases Q with
        | nil =>
          have hlenR : ((R.length : Int) == (tris.length : Int)) = true ↔ Conn T vv tris t0 := by
            rw [← hbfs.end_ Hhn.out, beq_iff_eq]
            omega
          have hmp := hst.mp
          have hkl : (keysR R).length = R.length := by unfold keysR; simp
          have Hhst := Lib.hid hst; clear hst; have Hhbfs := Lib.hid hbfs; clear hbfs; have Hhbox := Lib.hid hbox; clear hbox; have HhlenR := Lib.hid hlenR; clear hlenR; have Hhmp := Lib.hid hmp; clear hmp; have Hhkl := Lib.hid hkl; clear hkl
          go_wp2_with (at_len; refine wpList_len _ rfl _ 85 rfl 3 4 Tryz.underlying85 bR (keysR R) rfl Hhmp.out ?_; rw [Hhkl.out])
          go_ret
          exact ⟨⟨_, rfl, HhlenR.out⟩, hbel⟩
        | cons i Q =>
          have hiR := hbfs.wait i List.mem_cons_self
          have hit := hbfs.sub i hiR
          have hilt := Hhlt.out i hit
          obtain ⟨b, o, hA, hb, c1, c2, c3⟩ := (Hh.out.below keeps_tri (hbel.mono hB0)).tri_at hilt
          subst hA
          have hInR := Hp4.out _ (List.getElem_mem hilt)
          have hThree := Hhth.out _ (List.getElem_mem hilt)
          have hat : triAt T i = T[i] := by unfold triAt; rw [List.getD_eq_getElem?_getD, List.getElem?_eq_getElem hilt]; rfl
          have d1 : wr.cell? ⟨w.heap.size, 1, none⟩ = some (.slice (some ⟨b, o, none⟩) T.length cap) := hbox.cell 1
          generalize hx : T[i] = x at *
          have hix := fun j hj w => triJ x j hj w
          have hpop := (hbfs.pop).mono (o' := O1 T vv i x 0) fun r k _ h9 => .inr (adj_O1 hat h9)
          have ch := hst.que.head
          have htl := hst.que.tail
          simp only [List.length_cons] at hcq ch htl hst ⊢
          have hst1 := hst.tail htl.1 rfl
          have hst2 := fun h9 : capq = 1 => hst.tail (htl.2 h9) rfl
          simp only [Nat.add_sub_cancel] at hst1
          have hmu : 2 * (tris.length - mapSize wr bR) + (Q.length + 1) = 2 * (tris.length - R.length) + Q.length + 1 := by rw [hR]; omega
          obtain ⟨MU, hMU⟩ : ∃ MU, MU = 2 * (tris.length - R.length) + Q.length := ⟨_, rfl⟩
          simp only [List.length_cons] at hRQ
          have hMUb : MU ≤ 16384 := by omega
          have hMUc : MU + 1 ≤ 2 * tris.length := by omega
          have hmu2 : 2 * (tris.length - mapSize wr bR) + (Q.length + 1) = MU + 1 := by omega
          have Hhst := Lib.hid hst; clear hst; have Hhbfs := Lib.hid hbfs; clear hbfs; have Hhbox := Lib.hid hbox; clear hbox; have HhInR := Lib.hid hInR; clear hInR; have HhThree := Lib.hid hThree; clear hThree; have Hhat := Lib.hid hat; clear hat; have Hhx := Lib.hid hx; clear hx; have Hhix := Lib.hid hix; clear hix; have Hhpop := Lib.hid hpop; clear hpop; have Hhtl := Lib.hid htl; clear htl; have Hhst1 := Lib.hid hst1; clear hst1; have Hhst2 := Lib.hid hst2; clear hst2; have HhiR := Lib.hid hiR; clear hiR; have Hhit := Lib.hid hit; clear hit; have Hhmu := Lib.hid hmu; clear hmu; have Hhmu2 := Lib.hid hmu2; clear hmu2; have HhR := Lib.hid hR; clear hR
          rcases (show (capq = 1 ∧ Q = []) ∨ capq ≠ 1 from if h9 : capq = 1 then .inl ⟨h9, List.eq_nil_of_length_eq_zero (by omega)⟩ else .inr h9) with ⟨rfl, rfl⟩ | hc1
          all_goals
            go_wp2
            go_loopw [13, 69] (fun q jv wi => ∃ (j : Nat) (R Q : List Nat), j ≤ 3 ∧ jv = .int .i64 j ∧ TState wi w.heap.size bR T vv lm G (fun u => tris.filter (hasB T u)) q R Q ∧ Bfs T vv tris t0 R Q (O1 T vv i x j) ∧ i ∈ R ∧ 2 * (tris.length - R.length) + Q.length ≤ MU ∧
                Bk wi w.heap.size 24 [.int .i64 n, .slice (some ⟨b, o, none⟩) T.length cap] ∧ Below w.heap.size w wi)
              (fun _ jv _ => 3 - (intOf jv).toNat)
            case atStart => exact ⟨0, R, _, by omega, rfl, by first | exact Hhst2.out rfl | exact Hhst2.out trivial | exact Hhst1.out, Hhpop.out, HhiR.out, by omega, Hhbox.out, hbel⟩
            case round =>
              clear ch c1 c2 c3 d1
              obtain ⟨j, R, Q, hj, rfl, hst, hbfs, hiR, hle, hbox, hbel⟩ := hrel
              have hz := hbel.size
              obtain ⟨g9, off9, capq9, hq, hcq9⟩ := hst.que.form
              subst hq
              by_cases hltj : j < 3
              · have ix := Hhix.out j hltj
                obtain ⟨hok, hu1, hu2⟩ := vx_I64 HhInR.out p2 j
                generalize hue : vx x j = u0 at *
                by_cases huv : u0 = vv
                · subst huv
                  have hb2 := hbfs.mono (o' := O1 T u0 i x (j + 1)) fun r k _ h9 => .inr (by rw [← hue] at h9 ⊢; exact O1_skip h9)
                  have Hhst := Lib.hid hst; clear hst; have Hhbfs := Lib.hid hbfs; clear hbfs; have Hhb2 := Lib.hid hb2; clear hb2; have Hhbox := Lib.hid hbox; clear hbox; have Hhok := Lib.hid hok; clear hok; have Hhue := Lib.hid hue; clear hue; have HhiR := Lib.hid hiR; clear hiR
                  go_wp2
                  exact ⟨⟨j + 1, R, Q, by omega, by simp, Hhst.out, Hhb2.out, HhiR.out, hle, Hhbox.out, hbel⟩, by simp [intOf]; omega⟩
                · have hrow0 := hst.ends.rows.row u0
                  obtain ⟨Av, capv, hv, hcapv⟩ := own_form hrow0
                  have hrg : rowOf G u0 = tris.filter (hasB T u0) := by rw [hst.ends.is u0, if_neg huv]
                  have hrl : (rowOf G u0).length ≤ 8192 := by rw [hrg]; exact Nat.le_trans (List.length_filter_le _ _) hlen
                  generalize hg : rowOf G u0 = grp at *
                  have hv2 : ((Words.look lm u0).map id).getD (.slice none 0 0) = .slice Av grp.length capv := by rw [show ∀ o : Option Value, o.map id = o from fun o => by cases o <;> rfl]; exact hv
                  have hb2 := hbfs.mono (o' := O2 T vv i x j grp 0) fun r k _ h9 => .inr (O1_O2 h9)
                  clear hrow0
                  have Hhst := Lib.hid hst; clear hst; have Hhbfs := Lib.hid hbfs; clear hbfs; have Hhb2 := Lib.hid hb2; clear hb2; have Hhbox := Lib.hid hbox; clear hbox; have Hhok := Lib.hid hok; clear hok; have Hhue := Lib.hid hue; clear hue; have HhiR := Lib.hid hiR; clear hiR; have Hhv := Lib.hid hv; clear hv; have Hhg := Lib.hid hg; clear hg; have Hhv2 := Lib.hid hv2; clear hv2; have Hhrg := Lib.hid hrg; clear hrg
                  go_wp2_with (at_lookup; refine wpList_look _ rfl _ _ 221 rfl 3 28 keyI Tryz.underlying221 zero_row (w.heap.size + 1) lm rfl Hhst.out.ends.mp u0 rfl Hhok.out ?_; rw [Hhv2.out])
                  go_loopw [13, 79] (fun q pv wi => ∃ (p : Nat) (R Q : List Nat), p ≤ grp.length ∧ pv = .int .i64 p ∧ TState wi w.heap.size bR T vv lm G (fun u => tris.filter (hasB T u)) q R Q ∧ Bfs T vv tris t0 R Q (O2 T vv i x j grp p) ∧ i ∈ R ∧ 2 * (tris.length - R.length) + Q.length ≤ MU ∧
                      Bk wi w.heap.size 24 [.int .i64 n, .slice (some ⟨b, o, none⟩) T.length cap] ∧ Below w.heap.size w wi)
                    (fun _ pv _ => grp.length - (intOf pv).toNat)
                  case atStart => exact ⟨0, R, Q, by omega, rfl, Hhst.out, Hhb2.out, HhiR.out, hle, Hhbox.out, hbel⟩
                  case round =>
                    obtain ⟨p, R, Q, hp, rfl, hst, hbfs, hiR, hle, hbox, hbel⟩ := hrel
                    have hz := hbel.size
                    obtain ⟨g7, off7, capq7, hq, hcq7⟩ := hst.que.form
                    subst hq
                    by_cases hltp : p < grp.length
                    · have hrow := hst.ends.rows.row u0
                      rw [Hhv.out, Hhg.out] at hrow
                      obtain ⟨b3, o3, rfl, hb3, c1⟩ := (ints_own hrow).int_at (k := p) (by simpa using hltp)
                      rw [List.getElem_map] at c1
                      have hkm : grp[p] ∈ tris.filter (hasB T u0) := by rw [← Hhrg.out]; exact List.getElem_mem hltp
                      have hnext := fun r k' (h9 : O2 T vv i x j grp p r k') => O2_next hltp h9
                      generalize hke : grp[p] = k at *
                      obtain ⟨hkt, hkh⟩ := List.mem_filter.1 hkm
                      have hadj : AdjT T vv i k := ⟨u0, huv, by rw [Hhat.out, ← Hhue.out]; exact vx_has.2 ⟨j, hltj, rfl⟩, of_decide_eq_true hkh⟩
                      have hklt := Hhlt.out k hkt
                      have hokk : I64 (k : Int) := I64.nat (by omega)
                      by_cases hkR : k ∈ R
                      · have hs2 : ((Words.look (keysR R) (k : Int)).map evT).getD (.bool false) = .bool true := by
                          obtain ⟨u, hu⟩ := Option.isSome_iff_exists.1 ((look_isSome (keysR R) (k : Int)).2 ((keysR_mem R k).2 hkR))
                          rw [hu]; rfl
                        have hb2 := hbfs.mono (o' := O2 T vv i x j grp (p + 1)) fun r k' _ h9 => (hnext r k' h9).imp (fun e => by rw [e]; exact hkR) id
                        have hmpR := hst.mp
                        have Hhst := Lib.hid hst; clear hst; have Hhbfs := Lib.hid hbfs; clear hbfs; have Hhb2 := Lib.hid hb2; clear hb2; have Hhbox := Lib.hid hbox; clear hbox; have Hhokk := Lib.hid hokk; clear hokk; have Hhs2 := Lib.hid hs2; clear hs2; have Hhadj := Lib.hid hadj; clear hadj; have Hhkm := Lib.hid hkm; clear hkm; have HhkR := Lib.hid hkR; clear hkR; have Hhkt := Lib.hid hkt; clear hkt; have Hhkh := Lib.hid hkh; clear hkh; have Hhke := Lib.hid hke; clear hke; have Hhnext := Lib.hid hnext; clear hnext; have Hhrow := Lib.hid hrow; clear hrow; have HhiR := Lib.hid hiR; clear hiR; have HhmpR := Lib.hid hmpR; clear hmpR
                        go_wp2_with (at_lookup; refine wpList_look _ rfl _ _ 85 rfl 3 4 keyI Tryz.underlying85 zero_bool bR (keysR R) rfl HhmpR.out (k : Int) rfl Hhokk.out ?_; rw [Hhs2.out])
                        exact ⟨⟨p + 1, R, Q, by omega, by simp, Hhst.out, Hhb2.out, HhiR.out, hle, Hhbox.out, hbel⟩, by simp [intOf]; omega⟩
                      · have hs2 : ((Words.look (keysR R) (k : Int)).map evT).getD (.bool false) = .bool false := by
                          rw [(look_none (keysR R) (k : Int)).2 (by rw [keysR_mem]; exact hkR)]; rfl
                        have hb2 := hbfs.push (o' := O2 T vv i x j grp (p + 1)) hkt hkR hiR hadj fun r k' _ h9 => hnext r k' h9
                        have hpl := hb2.le
                        rw [List.length_append] at hpl
                        simp only [List.length_cons, List.length_nil] at hpl
                        have hiR2 : i ∈ R ++ [k] := List.mem_append.2 (.inl hiR)
                        have hkp := keysR_put hkR
                        have hmpR := hst.mp
                        have hQl : Q.length ≤ 24576 := by omega
                        have hz2 : w.heap.size + 2 ≤ wr.heap.size := by have := hst.mp.lt; omega
                        have hstq := hst.que
                        have Hhst := Lib.hid hst; clear hst; have Hhbfs := Lib.hid hbfs; clear hbfs; have Hhb2 := Lib.hid hb2; clear hb2; have Hhbox := Lib.hid hbox; clear hbox; have Hhokk := Lib.hid hokk; clear hokk; have Hhs2 := Lib.hid hs2; clear hs2; have Hhadj := Lib.hid hadj; clear hadj; have Hhkm := Lib.hid hkm; clear hkm; have HhkR := Lib.hid hkR; clear hkR; have Hhkt := Lib.hid hkt; clear hkt; have Hhkh := Lib.hid hkh; clear hkh; have Hhke := Lib.hid hke; clear hke; have Hhnext := Lib.hid hnext; clear hnext; have Hhrow := Lib.hid hrow; clear hrow; have HhiR := Lib.hid hiR; clear hiR; have HhmpR := Lib.hid hmpR; clear hmpR; have HhiR2 := Lib.hid hiR2; clear hiR2; have Hhkp := Lib.hid hkp; clear hkp; have Hhstq := Lib.hid hstq; clear hstq
                        go_wp2_with (first
                          | (at_lookup; refine wpList_look _ rfl _ _ 85 rfl 3 4 keyI Tryz.underlying85 zero_bool bR (keysR R) rfl HhmpR.out (k : Int) rfl Hhokk.out ?_; rw [Hhs2.out])
                          | (at_mapUpdate; refine wpList_put _ rfl _ _ _ 85 rfl 3 4 keyI Tryz.underlying85 bR (keysR R) rfl HhmpR.out (k : Int) rfl Hhokk.out () rfl ?_; intro w2 hmp2 hgr2 hsz2; have hb2' := hbel.grown hgr2 hz (fun q hq => by cases hq; omega); have hz9 := hb2'.size; have hsz3 := hgr2.size; rw [Hhkp.out] at hmp2; have Hhmp2 := Lib.hid hmp2; clear hmp2; have Hhgr2 := Lib.hid hgr2; clear hgr2; clear hsz2)
                          | (at_builtin; refine wpList_append_que _ rfl (.tmp 89) (.tmp 91) 28 rfl (w.heap.size + 2) info_int Tryz.underlying28 _ Q rfl ((que_kept_map Hhstq.out HhmpR.out Hhgr2.out).below ((Below.refl _ _).alloc (Nat.le_refl _) _) (Nat.le_refl _)) k ⟨w2.heap.size, 0, none⟩ 1 rfl ((Bk.new w2 3 [.int .i64 k]).cell 0) (by omega) (by simp; omega) ?_; intro v1 w3 hq3 hgr3 hat3; have Hhq3 := Lib.hid hq3; clear hq3; have Hhgr3 := Lib.hid hgr3; clear hgr3; have Hhat3 := Lib.hid hat3; clear hat3))
                        have hst3 := Hhst.out.push Hhmp2.out Hhgr2.out Hhq3.out Hhgr3.out Hhat3.out
                        have q2a := (que_kept_map Hhstq.out HhmpR.out Hhgr2.out).below ((Below.refl _ _).alloc (Nat.le_refl _) (.cells #[.int .i64 k] 3)) (Nat.le_refl _)
                        have bx := (Hhbox.out.kept_map HhmpR.out Hhgr2.out).alloc (.cells #[.int .i64 k] 3)
                        refine ⟨⟨p + 1, _, _, by omega, by simp, hst3, Hhb2.out, HhiR2.out, by simp only [List.length_append, List.length_cons, List.length_nil]; omega, bx.grown Hhgr3.out fun e => ?_, ?_⟩, by simp [intOf]; omega⟩
                        · obtain ⟨g0, hg0⟩ := Hhstq.out.lt _ e.symm
                          omega
                        · exact (hb2'.alloc hz9 _).grown Hhgr3.out (by simp; omega) fun q hq => by have := (q2a.lt q hq).1; omega
                    · have hpl : p = grp.length := by omega
                      subst hpl
                      have hb2 := hbfs.mono (o' := O1 T vv i x (j + 1)) fun r k' hk' h9 => .inr (by
                        have h8 := h9
                        rw [Hhrg.out, ← Hhue.out] at h8
                        exact O2_O1 hk' h8)
                      have Hhst := Lib.hid hst; clear hst; have Hhbfs := Lib.hid hbfs; clear hbfs; have Hhb2 := Lib.hid hb2; clear hb2; have Hhbox := Lib.hid hbox; clear hbox; have HhiR := Lib.hid hiR; clear hiR
                      go_wp2
                      exact ⟨⟨j + 1, R, Q, by omega, by simp, Hhst.out, Hhb2.out, HhiR.out, hle, Hhbox.out, hbel⟩, by simp [intOf]; omega⟩
              · have hj3 : j = 3 := by omega
                subst hj3
                have hb2 := hbfs.mono (o' := fun _ _ => False) fun r k _ h9 => .inr (O1_three h9)
                have hR2 := hst.mp.msize
                unfold keysR at hR2
                rw [List.length_map] at hR2
                have hle2 : 2 * (tris.length - mapSize wr bR) + Q.length ≤ MU := by rw [hR2]; exact hle
                have Hhst := Lib.hid hst; clear hst; have Hhbfs := Lib.hid hbfs; clear hbfs; have Hhb2 := Lib.hid hb2; clear hb2; have Hhbox := Lib.hid hbox; clear hbox; have HhiR := Lib.hid hiR; clear hiR; have HhR2 := Lib.hid hR2; clear hR2
                go_wp2
                refine ⟨⟨R, Q, Hhst.out, Hhb2.out, by omega, Hhbox.out, hbel⟩, ?_⟩
                have h9 := Hhmu2.out
                simp only [sliceLen]
                omega
end Go.Proofs.YtpbdcppaiafbgaaGreat

namespace Go.Mesh
def trisAt (T : List T3) (u : Int) : List Nat := (List.range T.length).filter (hasB T u)
def PinchOk (T : List T3) (u : Int) : Prop := ∃ t0, (trisAt T u).head? = some t0 ∧ Conn T u (trisAt T u) t0
theorem trisAt_nodup (T : List T3) (u : Int) : (trisAt T u).Nodup := (List.nodup_range).filter _
theorem trisAt_lt (T : List T3) (u : Int) : ∀ i ∈ trisAt T u, i < T.length := fun _ hi => List.mem_range.1 (List.mem_filter.1 hi).1
theorem trisAt_ne {T : List T3} {u : Int} (h : ∃ t ∈ T, HasV t u) : ∃ t0, (trisAt T u).head? = some t0 := by
  obtain ⟨t, ht, hu⟩ := h
  obtain ⟨i, hi, rfl⟩ := List.getElem_of_mem ht
  have hm : i ∈ trisAt T u := List.mem_filter.2 ⟨List.mem_range.2 hi, by unfold hasB triAt; rw [List.getD_eq_getElem?_getD, List.getElem?_eq_getElem hi]; exact decide_eq_true hu⟩
  cases hl : trisAt T u with
  | nil => rw [hl] at hm; cases hm
  | cons a l => exact ⟨a, rfl⟩
end Go.Mesh
namespace Go.Proofs.YtpbdcppaiafbgaaGreat
open Go Go.RowKit Go.Words Go.Mesh

theorem info_rowi : (Tryz.prog.info? 28).map (fun i => (i.zero, i.size, i.bytes)) = some (some (.slice none 0 0), 1, 24) := by kernel_rfl
structure RowsAt (w : World) (g base n : Nat) (vs : List Value) (Ls : List (List Nat)) (row : Nat → List Nat) : Prop where
  bk : Bk w g 28 vs
  fam : Fam w base 3 vs Ls
  len : Ls.length = n
  is : ∀ u (h : u < Ls.length), Ls[u] = row u

set_option maxRecDepth 20000 in
set_option maxHeartbeats 4000000 in
theorem pinch_calls (v : Value) (n : Nat) (T : List T3) (w : World) {B : Nat} (hB0 : B ≤ w.heap.size) (h : Sl 3 RTri w B v T) (hp : Plain n T) (hth : ∀ t ∈ T, Three t) (hus : ∀ u : Nat, u < n → ∃ t ∈ T, HasV t u) :
    Calls Tryz.prog 150 #[.agg #[.int .i64 (n : Int), v]] w fun e w' => (∃ v', e = .returned v' ∧ Wits w' w.heap.size v' 6 (∀ u : Nat, u < n → PinchOk T u)) ∧ Below w.heap.size w w' := by
  obtain ⟨A, cap, rfl, hcap⟩ := h.form
  have hp0 := hp
  obtain ⟨p1, p2, p3, p4⟩ := hp
  have hb1 := (Below.refl w.heap.size w).alloc (Nat.le_refl _) (.cells #[.int .i64 n, .slice A T.length cap] 24)
  have hm1 := run_make_rep (P := Tryz.prog) 78 Tryz.underlying78 info_rowi rfl n (by omega) (by omega)
  have hra : RowsAt ((w.alloc (.cells #[.int .i64 n, .slice A T.length cap] 24)).alloc (.cells (List.replicate n (.slice none 0 0)).toArray 28)) (w.heap.size + 1) (w.heap.size + 2) n (List.replicate n (.slice none 0 0)) (List.replicate n []) (fun u => (List.range 0).filter (hasB T u)) :=
    ⟨Bk.new' _ _ (by simp), Fam.nils _ _ _ _, by simp, fun u h => by simp⟩
  have hbox := (Bk.new w 24 [.int .i64 n, .slice A T.length cap]).alloc (.cells (List.replicate n (.slice none 0 0)).toArray 28)
  have hb2 := hb1.alloc (by simp) (.cells (List.replicate n (.slice none 0 0)).toArray 28)
  have Hh := Lib.hid h; clear h; have Hhp0 := Lib.hid hp0; clear hp0; have Hp4 := Lib.hid p4; clear p4; have Hhth := Lib.hid hth; clear hth; have Hhus := Lib.hid hus; clear hus; have Hhra := Lib.hid hra; clear hra; have Hhbox := Lib.hid hbox; clear hbox
  go_enter Tryz.func150, Tryz.ntmps150
  go_wp2
  clear hm1
  go_loopw [17] (fun i wr => ∃ (k : Nat) (vs : List Value) (Ls : List (List Nat)), k ≤ T.length ∧ i = .int .i64 k ∧ RowsAt wr (w.heap.size + 1) (w.heap.size + 2) n vs Ls (fun u => (List.range k).filter (hasB T u)) ∧ Bk wr w.heap.size 24 [.int .i64 n, .slice A T.length cap] ∧ Below w.heap.size w wr)
    (fun i _ => T.length - (intOf i).toNat)
  case atStart => exact ⟨0, _, _, by omega, rfl, Hhra.out, Hhbox.out, hb2⟩
  case round =>
    obtain ⟨k, vs, Ls, hk, rfl, hra, hbox, hbel⟩ := hrel
    have hz := hbel.size
    have hz2 : w.heap.size + 1 < wr.heap.size := hra.bk.lt
    by_cases hlt : k < T.length
    · obtain ⟨b, o, hA, hb, c1, c2, c3⟩ := (Hh.out.below keeps_tri (hbel.mono hB0)).tri_at hlt
      subst hA
      have hInR := Hp4.out _ (List.getElem_mem hlt)
      have hThree := Hhth.out _ (List.getElem_mem hlt)
      have hat : triAt T k = T[k] := by unfold triAt; rw [List.getD_eq_getElem?_getD, List.getElem?_eq_getElem hlt]; rfl
      generalize hx : T[k] = x at *
      have hix := fun j hj w => triJ x j hj w
      have hraA : RowsAt (wr.alloc (.cells #[.int .i64 x.1, .int .i64 x.2.1, .int .i64 x.2.2] 57)) (w.heap.size + 1) (w.heap.size + 2) n vs Ls (fun u => (List.range k).filter (hasB T u) ++ if firstV x 0 u then [k] else []) :=
        ⟨hra.bk.alloc _, hra.fam.below ((Below.refl _ _).alloc (Nat.le_refl _) _) (Nat.le_refl _), hra.len, fun u hu => by rw [hra.is u hu, firstV_zero]; simp⟩
      have hboxA := hbox.alloc (.cells #[.int .i64 x.1, .int .i64 x.2.1, .int .i64 x.2.2] 57)
      have hbA := hbel.alloc hz (.cells #[.int .i64 x.1, .int .i64 x.2.1, .int .i64 x.2.2] 57)
      have hbw : b < wr.heap.size := by omega
      have Hhra := Lib.hid hra; clear hra; have Hhbox := Lib.hid hbox; clear hbox; have HhInR := Lib.hid hInR; clear hInR; have HhThree := Lib.hid hThree; clear hThree; have Hhat := Lib.hid hat; clear hat; have Hhx := Lib.hid hx; clear hx; have Hhix := Lib.hid hix; clear hix; have HhraA := Lib.hid hraA; clear hraA; have HhboxA := Lib.hid hboxA; clear hboxA
      go_wp2
      clear c1 c2 c3
      go_loopw [23] (fun jv wi => ∃ (j : Nat) (vs : List Value) (Ls : List (List Nat)), j ≤ 3 ∧ jv = .int .i64 j ∧ RowsAt wi (w.heap.size + 1) (w.heap.size + 2) n vs Ls (fun u => (List.range k).filter (hasB T u) ++ if firstV x j u then [k] else []) ∧ Bk wi w.heap.size 24 [.int .i64 n, .slice (some ⟨b, o, none⟩) T.length cap] ∧ Below w.heap.size w wi)
        (fun jv _ => 3 - (intOf jv).toNat)
      case atStart => exact ⟨0, vs, Ls, by omega, rfl, HhraA.out, HhboxA.out, hbA⟩
      case round =>
        obtain ⟨j, vs, Ls, hj, rfl, hra, hbox, hbel⟩ := hrel
        have hz := hbel.size
        have hz2 : w.heap.size + 1 < wr.heap.size := hra.bk.lt
        by_cases hltj : j < 3
        · have ix := Hhix.out j hltj
          obtain ⟨hok, hu1, hu2⟩ := vx_I64 HhInR.out p2 j
          have hnew := firstV_new HhThree.out hltj
          have hsucc := fun u => firstV_succ x j u
          generalize hue : vx x j = u0 at *
          obtain ⟨a, rfl⟩ := Int.eq_ofNat_of_zero_le hu1
          have han : a < Ls.length := by rw [hra.len]; omega
          have hav : a < vs.length := by rw [hra.fam.len]; exact han
          have hrow := hra.fam.own a hav han
          obtain ⟨Av, capv, hv, hcapv⟩ := own_form hrow
          have hgl : Ls[a] = (List.range k).filter (hasB T a) := by rw [hra.is a han, hnew]; simp
          have hgl2 : Ls[a].length ≤ 8192 := by rw [hgl]; exact Nat.le_trans (List.length_filter_le _ _) (by simp; omega)
          have d1 : wr.cell? ⟨w.heap.size + 1, a, none⟩ = some vs[a] := by rw [hra.bk.cell, List.getElem?_eq_getElem hav]
          have f1 := hra.bk.frozen
          generalize hg : Ls[a] = grp at *
          rw [hv] at d1 hrow
          have hrowA := hrow.alloc (.cells #[.int .i64 k] 3)
          have hbA := hbel.alloc hz (.cells #[.int .i64 k] 3)
          have Hhra := Lib.hid hra; clear hra; have Hhbox := Lib.hid hbox; clear hbox; have Hhok := Lib.hid hok; clear hok; have Hhnew := Lib.hid hnew; clear hnew; have Hhsucc := Lib.hid hsucc; clear hsucc; have Hhue := Lib.hid hue; clear hue; have Hhrow := Lib.hid hrow; clear hrow; have HhrowA := Lib.hid hrowA; clear hrowA; have Hhv := Lib.hid hv; clear hv; have Hhg := Lib.hid hg; clear hg; have Hhgl := Lib.hid hgl; clear hgl
          go_wp2_with (at_builtin; refine append_block _ rfl (.tmp 31) (.tmp 33) 28 rfl (w.heap.size + 2) info_int Tryz.underlying28 rfl (by omega) _ grp.length (grp.map encI) rfl HhrowA.out wr.heap.size [.int .i64 k] rfl (Bk.new _ _ _) rfl (by simp [Value.oneCell']) (by omega) (by omega) (by simp; omega) ?_; intro v1 w3 hown3 hb9 hgr3 hat3; obtain ⟨Av1, capv1, rfl, hcapv1⟩ := own_form hown3; have bk3 := (Hhra.out.bk.alloc (.cells #[.int .i64 k] 3)).kept_own HhrowA.out (by decide) hgr3; have d3 : w3.cell? ⟨w.heap.size + 1, a, none⟩ = some vs[a] := (by rw [bk3.cell, List.getElem?_eq_getElem hav]); have f3 := bk3.frozen; have Hhown3 := Lib.hid hown3; clear hown3; have Hhgr3 := Lib.hid hgr3; clear hgr3; have Hhat3 := Lib.hid hat3; clear hat3; have Hbk3 := Lib.hid bk3; clear bk3)
          have hL9 : (grp ++ [k]).map encI = grp.map encI ++ [.int .i64 (k : Int)] := by rw [List.map_append]; rfl
          have famA := Hhra.out.fam.below ((Below.refl _ _).alloc (Nat.le_refl _) (.cells #[.int .i64 k] 3)) (Nat.le_refl _)
          have fam3 := famA.set (i := a) hav (v' := .slice Av1 (grp.length + 1) capv1) (L' := grp ++ [k]) (by rw [hL9, List.length_append]; exact Hhown3.out) (by rw [Hhv.out]; exact Hhgr3.out) (by
            rw [Hhv.out]
            exact Hhat3.out.imp id fun h9 => ⟨_, h9, Nat.le_refl _⟩)
          have bk4 := Hbk3.out.set a (.slice Av1 (grp.length + 1) capv1)
          have box3 := (Hhbox.out.alloc (.cells #[.int .i64 k] 3)).kept_own HhrowA.out (by decide) Hhgr3.out
          have fam4 := fam3.kept (w' := w3.setCell ⟨w.heap.size + 1, a, none⟩ (.slice Av1 (grp.length + 1) capv1)) (row := some (w.heap.size + 1)) ⟨rfl, rfl, rfl, by simp, fun i hi hne => Below.heap_setCell _ _ _ _ (fun e => hne (by rw [e]))⟩ (fam3.not_type Hbk3.out (by decide))
          refine ⟨⟨j + 1, _, _, by omega, by simp, ⟨bk4, fam4, by rw [List.length_set]; exact Hhra.out.len, fun u hu => ?_⟩, box3.far (by simp) _, ((hbA.trans (hb9.mono (by omega))).setCell (by simp) _)⟩, by simp [intOf]; omega⟩
          simp only [List.length_set] at hu
          rw [List.getElem_set]
          by_cases hau : a = u
          · subst hau
            rw [if_pos rfl, Hhgl.out, Hhsucc.out]
            simp
          · rw [if_neg hau, Hhra.out.is u hu, Hhsucc.out]
            have : ((a : Int) == (u : Int)) = false := by simpa using fun e : (a : Int) = u => hau (by omega)
            rw [this, Bool.or_false]
        · have hj3 : j = 3 := by omega
          subst hj3
          have hra2 : RowsAt wr (w.heap.size + 1) (w.heap.size + 2) n vs Ls (fun u => (List.range (k + 1)).filter (hasB T u)) :=
            ⟨hra.bk, hra.fam, hra.len, fun u hu => by
              rw [hra.is u hu, List.range_succ, List.filter_append, firstV_three]
              congr 1
              have : hasB T u k = decide (HasV x u) := by unfold hasB; rw [Hhat.out]
              rw [List.filter_cons, this]
              simp⟩
          have Hhra := Lib.hid hra; clear hra; have Hhra2 := Lib.hid hra2; clear hra2; have Hhbox := Lib.hid hbox; clear hbox
          go_wp2
          exact ⟨⟨k + 1, vs, Ls, by omega, by simp, Hhra2.out, Hhbox.out, hbel⟩, by simp [intOf]; omega⟩
    · have hkl : k = T.length := by omega
      subst hkl
      have hvl : vs.length = n := by rw [hra.fam.len, hra.len]
      have Hhra := Lib.hid hra; clear hra; have Hhbox := Lib.hid hbox; clear hbox
      go_wp2
      have HX : True := trivial
      go_loopw [8, 40] (fun l i wi => ∃ (u : Nat) (L : List T3), u ≤ n ∧ i = .int .i64 u ∧ wi.ownsRow (w.heap.size + 2) 48 3 l L.length (flat3 L) ∧ (L = [] ↔ ∀ a : Nat, a < u → PinchOk T a) ∧ (∀ x ∈ L, x.1 = 6) ∧ L.length ≤ u ∧
          RowsAt wi (w.heap.size + 1) (w.heap.size + 2) n vs Ls (fun u => trisAt T u) ∧ Bk wi w.heap.size 24 [.int .i64 n, .slice A T.length cap] ∧ Below w.heap.size w wi)
        (fun _ i _ => n - (intOf i).toNat)
      case atStart => exact ⟨0, [], by omega, rfl, World.ownsRow_nil _ _ _ _, by simp, by simp, by simp, Hhra.out, Hhbox.out, hbel⟩
      case round =>
        obtain ⟨u, L, hu, rfl, hown, hL, hkind, hll, hra, hbox, hbel⟩ := hrel
        have hz := hbel.size
        have hz2 : w.heap.size + 1 < wr.heap.size := hra.bk.lt
        obtain ⟨A5, cap5, rfl, hcap5⟩ := own_form hown
        by_cases hltu : u < n
        · have hul : u < Ls.length := by rw [hra.len]; exact hltu
          have huv : u < vs.length := by omega
          have hrow := hra.fam.own u huv hul
          rw [hra.is u hul] at hrow
          obtain ⟨Av, capv, hv, hcapv⟩ := own_form hrow
          have d1 : wr.cell? ⟨w.heap.size + 1, u, none⟩ = some vs[u] := by rw [hra.bk.cell, List.getElem?_eq_getElem huv]
          rw [hv] at d1 hrow
          have e0 : wr.cell? ⟨w.heap.size, 0, none⟩ = some (.int .i64 n) := hbox.cell 0
          have e1 : wr.cell? ⟨w.heap.size, 1, none⟩ = some (.slice A T.length cap) := hbox.cell 1
          obtain ⟨t0, ht0⟩ := trisAt_ne (Hhus.out u hltu)
          have hst : (∀ a : Nat, a < u + 1 → PinchOk T a) ↔ (∀ a : Nat, a < u → PinchOk T a) ∧ PinchOk T u :=
            ⟨fun h9 => ⟨fun a ha => h9 a (by omega), h9 u (by omega)⟩, fun h9 a ha => if he : a = u then he ▸ h9.2 else h9.1 a (by omega)⟩
          have hpo : PinchOk T u ↔ Conn T u (trisAt T u) t0 := ⟨fun ⟨t1, h8, h9⟩ => by rw [ht0] at h8; injection h8 with h8; subst h8; exact h9, fun h9 => ⟨t0, ht0, h9⟩⟩
          have hrs := ints_own hrow
          have Hhown := Lib.hid hown; clear hown; have HhL := Lib.hid hL; clear hL; have Hhkind := Lib.hid hkind; clear hkind; have Hhra := Lib.hid hra; clear hra; have Hhbox := Lib.hid hbox; clear hbox; have Hhrow := Lib.hid hrow; clear hrow; have Hhst := Lib.hid hst; clear hst; have Hhpo := Lib.hid hpo; clear hpo; have Hht0 := Lib.hid ht0; clear ht0; have Hhrs := Lib.hid hrs; clear hrs; have Hhv := Lib.hid hv; clear hv
          go_wp2_with fail
          refine (together_calls _ _ n u T (trisAt T u) t0 _ (Nat.le_refl _) ((Hh.out.below keeps_tri (hbel.mono hB0)).keep keeps_tri (Below.refl _ _) (by omega)) Hhrs.out Hhp0.out Hhth.out (trisAt_nodup T u) (trisAt_lt T u) (I64.nat (by omega)) Hht0.out).mono ?_
          rintro e w1 ⟨⟨bb, rfl, hbb⟩, hb9⟩
          have hbel1 := below_call hbel hb9 hz
          have hz3 := hb9.size
          have own1 := own_below Hhown.out hb9 (Nat.le_refl _)
          have ra1 : RowsAt w1 (w.heap.size + 1) (w.heap.size + 2) n vs Ls (fun u => trisAt T u) := ⟨Hhra.out.bk.below hb9 (by omega), Hhra.out.fam.below hb9 (Nat.le_refl _), Hhra.out.len, Hhra.out.is⟩
          have box1 := Hhbox.out.below hb9 (by omega)
          cases bb
          · have bad : L ++ [(6, (u : Int), 0)] = [] ↔ ∀ a : Nat, a < u + 1 → PinchOk T a := ⟨fun h9 => by simp at h9, fun h9 => by have := hbb.2 (Hhpo.out.1 (Hhst.out.1 h9).2); cases this⟩
            have kinds : ∀ x ∈ L ++ [(6, (u : Int), 0)], x.1 = 6 := by
              intro x hx
              rcases List.mem_append.1 hx with h9 | h9
              · exact Hhkind.out x h9
              · have : x = (6, (u : Int), 0) := by simpa using h9
                rw [this]
            have ownA := own1.alloc (.cells #[.int .i64 6, .int .i64 u, .int .i64 0] 48)
            have hbA := hbel1.alloc hbel1.size (.cells #[.int .i64 6, .int .i64 u, .int .i64 0] 48)
            have Hown1 := Lib.hid own1; clear own1; have Hra1 := Lib.hid ra1; clear ra1; have Hbox1 := Lib.hid box1; clear box1; have Hbad := Lib.hid bad; clear bad; have Hkinds := Lib.hid kinds; clear kinds; have HownA := Lib.hid ownA; clear ownA; have Hhbb := Lib.hid hbb; clear hbb
            go_wp2_with (at_builtin; refine append_block _ rfl (.tmp 50) (.tmp 53) 160 rfl (w.heap.size + 2) info_wit Tryz.underlying160 rfl (by omega) _ L.length (flat3 L) rfl HownA.out w1.heap.size [.int .i64 6, .int .i64 u, .int .i64 0] rfl (Bk.new _ _ _) rfl (by simp [Value.oneCell']) (by omega) (by omega) (by simp; omega) ?_; intro v1 w3 hown3 hb8 hgr3 _; have Hhown3 := Lib.hid hown3; clear hown3; have Hhgr3 := Lib.hid hgr3; clear hgr3)
            have raA : RowsAt (w1.alloc (.cells #[.int .i64 6, .int .i64 u, .int .i64 0] 48)) (w.heap.size + 1) (w.heap.size + 2) n vs Ls (fun u => trisAt T u) := ⟨Hra1.out.bk.alloc _, Hra1.out.fam.below ((Below.refl _ _).alloc (Nat.le_refl _) _) (Nat.le_refl _), Hra1.out.len, Hra1.out.is⟩
            have fam3 : Fam w3 (w.heap.size + 2) 3 vs Ls := raA.fam.kept Hhgr3.out fun i hi => own_apart HownA.out (raA.fam.own i hi (by rw [← raA.fam.len]; exact hi)) (by decide)
            exact ⟨⟨u + 1, _, by omega, by simp, by rw [flat3_snoc, List.length_append]; exact Hhown3.out, Hbad.out, Hkinds.out, by simp; omega, ⟨raA.bk.kept_own HownA.out (by decide) Hhgr3.out, fam3, raA.len, raA.is⟩, (Hbox1.out.alloc _).kept_own HownA.out (by decide) Hhgr3.out, hbA.trans (hb8.mono (by omega))⟩, by simp [intOf]; omega⟩
          · have good : L = [] ↔ ∀ a : Nat, a < u + 1 → PinchOk T a := by rw [Hhst.out, HhL.out]; exact ⟨fun h9 => ⟨h9, Hhpo.out.2 (hbb.1 rfl)⟩, fun h9 => h9.1⟩
            have Hown1 := Lib.hid own1; clear own1; have Hra1 := Lib.hid ra1; clear ra1; have Hbox1 := Lib.hid box1; clear box1; have Hgood := Lib.hid good; clear good; have Hhbb := Lib.hid hbb; clear hbb
            go_wp2
            exact ⟨⟨u + 1, L, by omega, by simp, Hown1.out, Hgood.out, Hhkind.out, by omega, Hra1.out, Hbox1.out, hbel1⟩, by simp [intOf]; omega⟩
        · have hul : u = n := by omega
          subst hul
          have Hhown := Lib.hid hown; clear hown; have HhL := Lib.hid hL; clear hL; have Hhkind := Lib.hid hkind; clear hkind
          go_wp2
          go_ret
          exact ⟨⟨_, rfl, L, own_base Hhown.out (by omega), HhL.out, Hhkind.out, by omega⟩, hbel⟩
end Go.Proofs.YtpbdcppaiafbgaaGreat
