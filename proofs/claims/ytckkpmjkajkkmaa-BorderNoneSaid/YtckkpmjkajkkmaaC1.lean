/- Walks: certify's index, loop. -/
import Derived.Test.YtckkpmjkajkkmaaProg
import Derived.Test.YtckkpmjkajkkmaaQueue
import Derived.Test.YtckkpmjkajkkmaaMesh
import Derived.BigGuardPart
import Derived.Lib.SliceRun
import Derived.WalkSpells
import Derived.WalkLawsBesides
import Derived.Orders
import Derived.KernelRfl
namespace Go.Words
open Go Go.RowKit Go.Mesh
def RTri : Rep T3 := fun _ _ t cs => cs = [.int .i64 t.1, .int .i64 t.2.1, .int .i64 t.2.2]
theorem keeps_tri : Keeps RTri := ⟨fun h _ _ => h⟩
theorem Sl.tri_at {w : World} {B n cap k : Nat} {A : Option Addr} {l : List T3} (h : Sl 3 RTri w B (.slice A n cap) l) (hk : k < l.length) :
    ∃ b o, A = some ⟨b, o, none⟩ ∧ b < B ∧ w.cell? ⟨b, o + k * 3, none⟩ = some (.int .i64 l[k].1) ∧ w.cell? ⟨b, o + k * 3 + 1, none⟩ = some (.int .i64 l[k].2.1) ∧ w.cell? ⟨b, o + k * 3 + 2, none⟩ = some (.int .i64 l[k].2.2) := by
  obtain ⟨b, o, cs, h1, h2, h3, h4, h5⟩ := h.at_ (List.getElem?_eq_getElem hk)
  unfold RTri at h4
  subst h4
  exact ⟨b, o, h1, h2, by simpa using h5 0 _ rfl, h5 1 _ rfl, h5 2 _ rfl⟩
/-- Triples' cells in order. -/
def flat3 (l : List T3) : List Value := l.flatMap fun t => [.int .i64 t.1, .int .i64 t.2.1, .int .i64 t.2.2]
theorem flat3_snoc (l : List T3) (x : T3) : flat3 (l ++ [x]) = flat3 l ++ [.int .i64 x.1, .int .i64 x.2.1, .int .i64 x.2.2] := by unfold flat3; rw [List.flatMap_append]; rfl
end Go.Words
namespace Go.Mesh
/-- A triangle's vertices are among so many. -/
def InR (N : Int) (t : T3) : Prop := (0 ≤ t.1 ∧ t.1 < N) ∧ (0 ≤ t.2.1 ∧ t.2.1 < N) ∧ (0 ≤ t.2.2 ∧ t.2.2 < N)
def Plain (N : Int) (T : List T3) : Prop := 0 ≤ N ∧ N ≤ 4096 ∧ T.length ≤ 8192 ∧ ∀ t ∈ T, InR N t
/-- Three unlike vertices. -/
def Three (t : T3) : Prop := t.1 ≠ t.2.1 ∧ t.2.1 ≠ t.2.2 ∧ t.2.2 ≠ t.1
end Go.Mesh
namespace Go.Proofs.Ytckkpmjkajkkmaa
open Go Go.RowKit Go.Words Go.Mesh

theorem mixed : Try.prog.follows .mixedOrders = true := by kernel_rfl
theorem info_wit : (Try.prog.info? 61).map (fun i => (i.zero, i.size, i.bytes)) = some (some (.agg #[.int .i64 0, .int .i64 0, .int .i64 0]), 3, 24) := by kernel_rfl
theorem tri0 (x y z : Value) (w : World) : (Instr.index 55 (.agg #[x, y, z]) (.int .i64 0)).run Try.prog w = .ok x w := by kernel_rfl
theorem tri1 (x y z : Value) (w : World) : (Instr.index 55 (.agg #[x, y, z]) (.int .i64 1)).run Try.prog w = .ok y w := by kernel_rfl
theorem tri2 (x y z : Value) (w : World) : (Instr.index 55 (.agg #[x, y, z]) (.int .i64 2)).run Try.prog w = .ok z w := by kernel_rfl
/-- What a kind's list of witnesses is good for. -/
def Wits (w : World) (base : Nat) (v : Value) (kind : Int) (good : Prop) : Prop := ∃ L : List T3, w.ownsRow base 61 3 v L.length (flat3 L) ∧ (L = [] ↔ good) ∧ (∀ x ∈ L, x.1 = kind) ∧ L.length ≤ 603979776

set_option maxRecDepth 20000 in
set_option maxHeartbeats 1000000 in
theorem index_calls (v : Value) (N : Int) (T : List T3) (w : World) {B : Nat} (hB0 : B ≤ w.heap.size) (h : Sl 3 RTri w B v T) (hN : -9223372036854775808 ≤ N ∧ N ≤ 9223372036854775807) :
    Calls Try.prog 92 #[.agg #[.int .i64 N, v]] w fun e w' => (∃ v', e = .returned v' ∧ Wits w' w.heap.size v' 1 (Plain N T)) ∧ Below w.heap.size w w' := by
  obtain ⟨A, cap, rfl, hcap⟩ := h.form
  have hbox := Bk.new w 24 [.int .i64 N, .slice A T.length cap]
  have hb1 := (Below.refl w.heap.size w).alloc (Nat.le_refl _) (.cells #[.int .i64 N, .slice A T.length cap] 24)
  have Hh := Lib.hid h; clear h
  by_cases hp : 0 ≤ N ∧ N ≤ 4096 ∧ T.length ≤ 8192
  case neg =>
    have hbad : ¬ Plain N T := fun h9 => hp ⟨h9.1, h9.2.1, h9.2.2.1⟩
    have Hhbad := Lib.hid hbad; clear hbad
    go_enter Try.func92, Try.ntmps92
    go_wp2
    all_goals first | (exfalso; omega) | skip
    all_goals
      go_ret
      refine ⟨⟨_, rfl, [(1, -1, 0)], ?_, ⟨fun h9 => (by cases h9), fun h9 => absurd h9 Hhbad.out⟩, by simp, by simp⟩, hb1.alloc (by rw [World.size_alloc]; omega) _⟩
      have h9 := World.ownsRow_lit (e := 61) (base := w.heap.size) (size := 3) (w.alloc (.cells #[.int .i64 N, .slice A T.length cap] 24)) #[.int .i64 1, .int .i64 (-1), .int .i64 0] 1 (by rw [World.size_alloc]; omega) (by unfold maxLen; omega) rfl
      rw [World.size_alloc] at h9
      exact h9
  case pos =>
    obtain ⟨p1, p2, p3⟩ := hp
    have HX : True := trivial
    have Hhbox := Lib.hid hbox; clear hbox
    go_enter Try.func92, Try.ntmps92
    go_wp2
    all_goals first | (exfalso; omega) | skip
    go_loopw [3, 27] (fun l i wr => ∃ (k : Nat) (L : List T3), k ≤ T.length ∧ i = .int .i64 k ∧ wr.ownsRow (w.heap.size + 1) 61 3 l L.length (flat3 L) ∧ (L = [] ↔ ∀ t ∈ T.take k, InR N t) ∧ (∀ x ∈ L, x.1 = 1) ∧ L.length ≤ k ∧
        Bk wr w.heap.size 24 [.int .i64 N, .slice A T.length cap] ∧ Below w.heap.size w wr)
      (fun _ i _ => T.length - (intOf i).toNat)
    case atStart => exact ⟨0, [], by omega, rfl, World.ownsRow_nil _ _ _ _, by simp, by simp, by simp, Hhbox.out, hb1⟩
    case round =>
      obtain ⟨k, L, hk, rfl, hown, hL, hkind, hlen, hbox, hbel⟩ := hrel
      have hz := hbel.size
      have hltb := hbox.lt
      by_cases hlt : k < T.length
      · obtain ⟨b, o, rfl, hb, c1, c2, c3⟩ := (Hh.out.below keeps_tri (hbel.mono hB0)).tri_at hlt
        have htk : T.take (k + 1) = T.take k ++ [T[k]] := List.take_succ_eq_append_getElem hlt
        have hin : (∀ t ∈ T.take (k + 1), InR N t) ↔ (∀ t ∈ T.take k, InR N t) ∧ InR N T[k] := by
          rw [htk]
          simp only [List.mem_append, List.mem_singleton]
          exact ⟨fun h9 => ⟨fun t ht => h9 t (.inl ht), h9 _ (.inr rfl)⟩, fun h9 t ht => ht.elim (h9.1 t) fun e => e ▸ h9.2⟩
        generalize hx : T[k] = x at *
        obtain ⟨x1, x2, x3⟩ := x
        simp only [] at c1 c2 c3
        have hboxA := hbox.alloc (.cells #[.int .i64 x1, .int .i64 x2, .int .i64 x3] 55)
        have o1 := hown.alloc (.cells #[.int .i64 x1, .int .i64 x2, .int .i64 x3] 55)
        have hbA := hbel.alloc hz (.cells #[.int .i64 x1, .int .i64 x2, .int .i64 x3] 55)
        obtain ⟨A5, cap5, rfl, hcap5⟩ := own_form hown
        have d1 : (wr.alloc (.cells #[.int .i64 x1, .int .i64 x2, .int .i64 x3] 55)).cell? ⟨w.heap.size, 0, none⟩ = some (.int .i64 N) := hboxA.cell 0
        have hbw : b < wr.heap.size := by omega
        have Hhown := Lib.hid hown; clear hown; have HhL := Lib.hid hL; clear hL; have Hhkind := Lib.hid hkind; clear hkind; have Hhtk := Lib.hid htk; clear htk; have Hhin := Lib.hid hin; clear hin; have Hhx := Lib.hid hx; clear hx; have Hhbox := Lib.hid hbox; clear hbox; have HhboxA := Lib.hid hboxA; clear hboxA; have Ho1 := Lib.hid o1; clear o1
        go_wp2_with fail
        clear c1 c2 c3
        obtain ⟨wo, hwo⟩ : ∃ wo : World, wo = wr.alloc (.cells #[.int .i64 x1, .int .i64 x2, .int .i64 x3] 55) := ⟨_, rfl⟩
        have hzo : wr.heap.size + 1 ≤ wo.heap.size := by rw [hwo]; simp
        rw [← hwo] at d1 hbA Ho1 HhboxA ⊢
        clear hwo
        go_loopw [3, 33] (fun l i wi => ∃ j : Int, 0 ≤ j ∧ j ≤ 3 ∧ i = .int .i64 j ∧ l = .slice A5 L.length cap5 ∧ (0 < j → 0 ≤ x1 ∧ x1 < N) ∧ (1 < j → 0 ≤ x2 ∧ x2 < N) ∧ (2 < j → 0 ≤ x3 ∧ x3 < N) ∧ wi = wo) (fun _ i _ => 3 - (intOf i).toNat)
        case atStart => exact ⟨0, by omega, by omega, rfl, rfl, by omega, by omega, by omega, rfl⟩
        case round =>
          obtain ⟨j, hj0, hj, rfl, rfl, g1, g2, g3, rfl⟩ := hrel
          have bad : ∀ (v1 : Value) (w1 : World), ¬ InR N (x1, x2, x3) → w1.ownsRow (w.heap.size + 1) 61 3 v1 (L.length + 1) (flat3 L ++ [.int .i64 1, .int .i64 (k : Int), .int .i64 0]) → Below (w.heap.size + 1) (wr.alloc (.cells #[.int .i64 1, .int .i64 k, .int .i64 0] 61)) w1 →
              w1.ownsRow (w.heap.size + 1) 61 3 v1 (L ++ [(1, (k : Int), 0)]).length (flat3 (L ++ [(1, (k : Int), 0)])) ∧ (L ++ [(1, (k : Int), 0)] = [] ↔ ∀ t ∈ T.take (k + 1), InR N t) ∧ (∀ x ∈ L ++ [(1, (k : Int), 0)], x.1 = 1) ∧ (L ++ [(1, (k : Int), 0)]).length ≤ k + 1 ∧
                Bk w1 w.heap.size 24 [.int .i64 N, .slice (some ⟨b, o, none⟩) T.length cap] ∧ Below w.heap.size w w1 := by
            intro v1 w1 hn ho hb9
            refine ⟨by rw [flat3_snoc, List.length_append]; exact ho, ⟨fun h9 => by simp at h9, fun h9 => absurd (Hhin.out.1 h9).2 hn⟩, fun x hx => ?_, by simp; omega, (HhboxA.out.alloc _).below hb9 (by omega), (hbA.alloc (by omega) _).trans (hb9.mono (by omega))⟩
            rcases List.mem_append.1 hx with h9 | h9
            · exact Hhkind.out x h9
            · have : x = (1, (k : Int), 0) := by simpa using h9
              rw [this]
          have good : InR N (x1, x2, x3) → (L = [] ↔ ∀ t ∈ T.take (k + 1), InR N t) := fun h9 => by rw [Hhin.out, HhL.out]; exact ⟨fun h8 => ⟨h8, h9⟩, fun h8 => h8.1⟩
          have Hbad := Lib.hid bad
          have Hgood := Lib.hid good
          clear bad good
          have ix0 := tri0
          have ix1 := tri1
          have ix2 := tri2
          have hj4 : j = 0 ∨ j = 1 ∨ j = 2 ∨ j = 3 := by omega
          rcases hj4 with rfl | rfl | rfl | rfl
          · clear g1 g2 g3
            by_cases hr : 0 ≤ x1 ∧ x1 < N
            · have hr1 := hr.1
              have hr2 := hr.2
              go_wp2
              all_goals first | (exfalso; omega) | skip
              exact ⟨⟨1, by omega, by omega, rfl, rfl, fun _ => hr, by omega, by omega, by first | rfl | trivial⟩, by simp [intOf]⟩
            · have hn : ¬ InR N (x1, x2, x3) := fun h9 => hr h9.1
              have Hn := Lib.hid hn
              clear hn
              go_wp2_with (at_builtin; refine append_block _ rfl (.tmp 44) (.tmp 47) 93 rfl (w.heap.size + 1) info_wit Try.underlying93 rfl (by omega) _ L.length (flat3 L) rfl (Ho1.out.alloc _) wr.heap.size [.int .i64 1, .int .i64 k, .int .i64 0] rfl (Bk.new _ _ _) rfl (by simp [Value.oneCell']) (by omega) (by omega) (by simp; omega) ?_; intro v1 w1 hown1 hb9 _ _; have Hhown1 := Lib.hid hown1; clear hown1)
              all_goals exact ⟨⟨k + 1, _, by omega, by simp, Hbad.out _ _ Hn.out Hhown1.out hb9⟩, by simp [intOf]; omega⟩
          · have G1 := Lib.hid (g1 (by omega))
            clear g1 g2 g3
            by_cases hr : 0 ≤ x2 ∧ x2 < N
            · have hr1 := hr.1
              have hr2 := hr.2
              go_wp2
              all_goals first | (exfalso; omega) | skip
              exact ⟨⟨2, by omega, by omega, rfl, rfl, fun _ => G1.out, fun _ => hr, by omega, by first | rfl | trivial⟩, by simp [intOf]⟩
            · have hn : ¬ InR N (x1, x2, x3) := fun h9 => hr h9.2.1
              have Hn := Lib.hid hn
              clear hn
              go_wp2_with (at_builtin; refine append_block _ rfl (.tmp 44) (.tmp 47) 93 rfl (w.heap.size + 1) info_wit Try.underlying93 rfl (by omega) _ L.length (flat3 L) rfl (Ho1.out.alloc _) wr.heap.size [.int .i64 1, .int .i64 k, .int .i64 0] rfl (Bk.new _ _ _) rfl (by simp [Value.oneCell']) (by omega) (by omega) (by simp; omega) ?_; intro v1 w1 hown1 hb9 _ _; have Hhown1 := Lib.hid hown1; clear hown1)
              all_goals exact ⟨⟨k + 1, _, by omega, by simp, Hbad.out _ _ Hn.out Hhown1.out hb9⟩, by simp [intOf]; omega⟩
          · have G1 := Lib.hid (g1 (by omega))
            have G2 := Lib.hid (g2 (by omega))
            clear g1 g2 g3
            by_cases hr : 0 ≤ x3 ∧ x3 < N
            · have hr1 := hr.1
              have hr2 := hr.2
              go_wp2
              all_goals first | (exfalso; omega) | skip
              exact ⟨⟨3, by omega, by omega, rfl, rfl, fun _ => G1.out, fun _ => G2.out, fun _ => hr, by first | rfl | trivial⟩, by simp [intOf]⟩
            · have hn : ¬ InR N (x1, x2, x3) := fun h9 => hr h9.2.2
              have Hn := Lib.hid hn
              clear hn
              go_wp2_with (at_builtin; refine append_block _ rfl (.tmp 44) (.tmp 47) 93 rfl (w.heap.size + 1) info_wit Try.underlying93 rfl (by omega) _ L.length (flat3 L) rfl (Ho1.out.alloc _) wr.heap.size [.int .i64 1, .int .i64 k, .int .i64 0] rfl (Bk.new _ _ _) rfl (by simp [Value.oneCell']) (by omega) (by omega) (by simp; omega) ?_; intro v1 w1 hown1 hb9 _ _; have Hhown1 := Lib.hid hown1; clear hown1)
              all_goals exact ⟨⟨k + 1, _, by omega, by simp, Hbad.out _ _ Hn.out Hhown1.out hb9⟩, by simp [intOf]; omega⟩
          · have hin9 : InR N (x1, x2, x3) := ⟨g1 (by omega), g2 (by omega), g3 (by omega)⟩
            have Hg := Lib.hid (Hgood.out hin9)
            clear hin9 g1 g2 g3
            have hbx := HhboxA.out
            have Hhbx := Lib.hid hbx; clear hbx
            go_wp2
            exact ⟨⟨k + 1, L, by omega, by simp, Ho1.out, Hg.out, Hhkind.out, by omega, Hhbx.out, hbA⟩, by simp [intOf]; omega⟩
      · have hkl : k = T.length := by omega
        subst hkl
        rw [List.take_length] at hL
        have hgd : L = [] ↔ Plain N T := by rw [hL]; exact ⟨fun h9 => ⟨p1, p2, p3, h9⟩, fun h9 => h9.2.2.2⟩
        have Hhown := Lib.hid hown; clear hown; have HhL := Lib.hid hL; clear hL; have Hhgd := Lib.hid hgd; clear hgd; have Hhkind := Lib.hid hkind; clear hkind; have Hhbox := Lib.hid hbox; clear hbox
        go_wp2
        go_ret
        exact ⟨⟨_, rfl, L, own_base Hhown.out (by omega), Hhgd.out, Hhkind.out, by omega⟩, hbel⟩
end Go.Proofs.Ytckkpmjkajkkmaa
