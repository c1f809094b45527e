/- Walks: ring's Inner, Near, Degree. -/
import Derived.Test.YtckkpmjkajkkmaaGreatTH
import Derived.Test.YtckkpmjkajkkmaaGreatMP
import Derived.Test.YtckkpmjkajkkmaaGreatCanonIn
namespace Go.Mesh
theorem surf_nil : Surf 0 [] := ⟨by omega, by omega, by simp, fun c h => by simp at h, fun c h => by simp at h, fun c d h => by simp at h, fun i j _ h => by simp at h, fun v h1 h2 => by omega, fun v h1 h2 => by omega⟩
end Go.Mesh
namespace Go.Proofs.YtckkpmjkajkkmaaGreat
open Go Go.RowKit Go.Words Go.Mesh
attribute [local go_sem] Oper.semAt_some

/-- A surface's table, or nil, which is as that of no triangles. -/
def TabN (w : World) (B : Nat) (tv : Value) (N : Int) (T : List T3) : Prop := Tab w B tv N T ∨ (tv = .pointer none ∧ N = 0 ∧ T = [] ∧ B ≤ w.heap.size)
theorem TabN.below {w w' : World} {B B' : Nat} {tv : Value} {N : Int} {T : List T3} (h : TabN w B tv N T) (hb : Below B' w w') (hB : B ≤ B') : TabN w' B tv N T := by
  rcases h with h | ⟨h1, h2, h3, h4⟩
  · exact .inl (h.below hb hB)
  · exact .inr ⟨h1, h2, h3, Nat.le_trans h4 hb.size⟩
theorem TabN.le {w : World} {B : Nat} {tv : Value} {N : Int} {T : List T3} (h : TabN w B tv N T) : B ≤ w.heap.size := by
  rcases h with h | ⟨_, _, _, h4⟩
  · exact h.le
  · exact h4
theorem TabN.form {w : World} {B : Nat} {tv : Value} {N : Int} {T : List T3} (h : TabN w B tv N T) : ∃ t, tv = .pointer t := by
  rcases h with ⟨g, _, _, _, _, _, rfl, _⟩ | ⟨h1, _⟩
  · exact ⟨_, rfl⟩
  · exact ⟨_, h1⟩
theorem TabN.tab {w : World} {B : Nat} {tv : Value} {N : Int} {T : List T3} (h : TabN w B tv N T) (hT : T ≠ []) : Tab w B tv N T := by
  rcases h with h | ⟨_, _, h3, _⟩
  · exact h
  · exact absurd h3 hT
theorem ringAt_nil (v : Int) : ringAt [] 0 v = [] := by unfold ringAt; rw [if_neg (by omega)]
theorem around_stopsN (n : Nat) (hn : 1 ≤ n) (Bt Bv n₀ B : Nat) (tv : Value) (N : Int) (T : List T3) (v : Int) (hs : Surf N T) (hB : B ≤ n₀) (w : World) (hBt : Bt < w.heap.size) (hBv : Bv < w.heap.size) (hn₀ : n₀ ≤ w.heap.size)
    (ht : w.cell? ⟨Bt, 0, none⟩ = some tv) (hv : w.cell? ⟨Bv, 0, none⟩ = some (.int .i64 v)) (htab : TabN w B tv N T) :
    SeqStopsK Fence.wide n Tryz.prog 37 #[.pointer (some ⟨Bt, 0, none⟩), .pointer (some ⟨Bv, 0, none⟩)] (fun x : Cor T => #[Value.int .i64 (x.1 : Int)]) (KeepB n₀ Bt) (fun ys => ys.map (·.1) = ringAt T N v) (fun pre => pre.map (·.1) <+: ringAt T N v) (3 * T.length + 1) w := by
  rcases htab with htab | ⟨rfl, rfl, rfl, _⟩
  · exact around_stops n hn Bt Bv n₀ B tv N T v hs hB w hBt hBv hn₀ ht hv htab
  · intro l J Jx W hW h1 h2 hY h0
    refine (around_nil_stops n hn Bt Bv n₀ v w hBt hBv ht hv l J Jx W hW h1 h2 hY h0).mono ?_
    rintro e w' ⟨h3, h4⟩
    refine ⟨h3, ?_⟩
    rcases h4 with ⟨xs, rfl, h5⟩ | ⟨pre, h5, _⟩
    · exact .inl ⟨[], by rw [ringAt_nil]; rfl, h5⟩
    · exact h5.elim

set_option maxRecDepth 20000 in
theorem inner_calls {w : World} {B : Nat} {tv : Value} {N : Int} {T : List T3} (h : TabN w B tv N T) (hs : Surf N T) (v : Int) :
    Calls Tryz.prog 12 #[tv, .int .i64 v] w fun e w' => e = .returned (.bool (innerAt T N v)) ∧ Below w.heap.size w w' := by
  rcases h with h | ⟨rfl, rfl, rfl, _⟩
  · have hth := there_calls h hs v
    by_cases hin : 0 ≤ v ∧ v < N
    · rw [decide_eq_true hin] at hth
      have hfi := first_calls h hs v hin
      obtain ⟨b, hb⟩ := hs.corner_some hin.1 hin.2
      have hr : innerAt T N v = !(begins T b).2 := by unfold innerAt; rw [if_pos hin, hb]
      rw [hr]
      have hfi : Calls Tryz.prog 29 #[tv, .int .i64 v] w fun e w' => e = .returned (.tuple #[.int .i64 ((begins T b).1 : Int), .bool (begins T b).2]) ∧ Below w.heap.size w w' := by
        refine hfi.mono ?_
        rintro e w' ⟨⟨b', hb', he⟩, h9⟩
        rw [hb] at hb'
        obtain rfl := Option.some.inj hb'
        exact ⟨he, h9⟩
      generalize (begins T b).1 = x0 at *
      generalize (begins T b).2 = bo at *
      have Hh := Lib.hid h; clear h; have Hhth := Lib.hid hth; clear hth; have Hhfi := Lib.hid hfi; clear hfi; have Hhs := Lib.hid hs; clear hs; have Hhb := Lib.hid hb; clear hb
      go_enter Tryz.func12, Tryz.ntmps12
      go_wp2_with fail
      refine Hhth.out.mono ?_
      rintro e w1 ⟨rfl, rfl⟩
      go_wp2_with fail
      refine Hhfi.out.mono ?_
      rintro e w1 ⟨rfl, hb1⟩
      go_wp2_with fail
      go_ret
      exact ⟨rfl, hb1⟩
    · rw [decide_eq_false hin] at hth
      rw [(hs.ring_none hin).2]
      have Hh := Lib.hid h; clear h; have Hhth := Lib.hid hth; clear hth; have Hhs := Lib.hid hs; clear hs; have Hhin := Lib.hid hin; clear hin
      go_enter Tryz.func12, Tryz.ntmps12
      go_wp2_with fail
      refine Hhth.out.mono ?_
      rintro e w1 ⟨rfl, rfl⟩
      go_wp2_with fail
      go_ret
      exact ⟨rfl, Below.refl _ _⟩
  · have hth := there_nil v w
    rw [show innerAt [] 0 v = false from by unfold innerAt; rw [if_neg (by omega)]]
    have Hhth := Lib.hid hth; clear hth; have Hhs := Lib.hid hs; clear hs
    go_enter Tryz.func12, Tryz.ntmps12
    go_wp2_with fail
    refine Hhth.out.mono ?_
    rintro e w1 ⟨rfl, rfl⟩
    go_wp2_with fail
    go_ret
    exact ⟨rfl, Below.refl _ _⟩
theorem oi_nonneg {o : Option Nat} : (decide (0 ≤ oi o)) = o.isSome := by cases o <;> simp [oi]
set_option maxRecDepth 20000 in
theorem near_calls {w : World} {B : Nat} {tv : Value} {N : Int} {T : List T3} (h : TabN w B tv N T) (a b : Int) (ha : I64 a) (hb : I64 b) :
    Calls Tryz.prog 8 #[tv, .int .i64 a, .int .i64 b] w fun e w' => e = .returned (.bool (near T a b)) ∧ Below w.heap.size w w' := by
  rcases h with h | ⟨rfl, rfl, rfl, _⟩
  · have hle := h.le
    obtain ⟨g, rfl⟩ : ∃ g, tv = .pointer (some ⟨g, 0, none⟩) := by
      obtain ⟨g, _, _, _, _, _, rfl, _⟩ := h
      exact ⟨_, rfl⟩
    have hf := fun wz (hz : Tab wz B (.pointer (some ⟨g, 0, none⟩)) N T) => facing_calls hz a b ha hb
    have hf2 := fun wz (hz : Tab wz B (.pointer (some ⟨g, 0, none⟩)) N T) => facing_calls hz b a hb ha
    have hnear : near T a b = ((facing T (a, b)).isSome || (facing T (b, a)).isSome) := rfl
    rw [hnear]
    clear hnear
    generalize facing T (a, b) = o1 at *
    generalize facing T (b, a) = o2 at *
    cases o1 with
    | some c =>
      have hc : 0 ≤ oi (some c) := by simp [oi]
      rw [show ((some c).isSome || o2.isSome) = true from rfl]
      generalize oi (some c) = x at *
      have Hh := Lib.hid h; clear h; have Hhf := Lib.hid hf; clear hf; have Hhf2 := Lib.hid hf2; clear hf2; have Hha := Lib.hid ha; clear ha; have Hhb := Lib.hid hb; clear hb
      go_enter Tryz.func8, Tryz.ntmps8
      go_wp2_with fail
      refine (Hhf.out _ Hh.out).mono ?_
      rintro e w1 ⟨rfl, hb1⟩
      go_wp2_with fail
      go_ret
      exact ⟨rfl, hb1⟩
    | none =>
      have hc : oi none < 0 := by simp [oi]
      rw [show ((none : Option Nat).isSome || o2.isSome) = o2.isSome from rfl]
      generalize oi none = x at *
      have ho2 := oi_nonneg (o := o2)
      generalize oi o2 = y at *
      have Hh := Lib.hid h; clear h; have Hhf := Lib.hid hf; clear hf; have Hhf2 := Lib.hid hf2; clear hf2; have Hha := Lib.hid ha; clear ha; have Hhb := Lib.hid hb; clear hb; have Hho2 := Lib.hid ho2; clear ho2
      go_enter Tryz.func8, Tryz.ntmps8
      go_wp2_with fail
      refine (Hhf.out _ Hh.out).mono ?_
      rintro e w1 ⟨rfl, hb1⟩
      have hf2 := Hhf2.out _ (Hh.out.below hb1 hle)
      have Hhf2 := Lib.hid hf2; clear hf2
      go_wp2_with fail
      refine Hhf2.out.mono ?_
      rintro e w2 ⟨rfl, hb2⟩
      go_wp2_with fail
      go_ret
      exact ⟨ret_bool Hho2.out, below_call hb1 hb2 hb1.size⟩
  · rw [show near [] a b = false from rfl]
    go_enter Tryz.func8, Tryz.ntmps8
    go_wp2_with fail
    go_ret
    exact ⟨rfl, Below.refl _ _⟩
end Go.Proofs.YtckkpmjkajkkmaaGreat
