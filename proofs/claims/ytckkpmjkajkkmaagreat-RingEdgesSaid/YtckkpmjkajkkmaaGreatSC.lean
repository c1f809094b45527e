/- Walks: the keys of a map of edges, gone over and collected (maps.Keys, slices.Collect). -/
import Derived.Test.YtckkpmjkajkkmaaGreatSA
import Derived.Test.YtckkpmjkajkkmaaGreatSB
namespace Go.Proofs.YtckkpmjkajkkmaaGreat
open Go Go.RowKit Go.Words Go.Mesh Go.Maps
attribute [local go_sem] Oper.semAt_some

/-- A map of edges. -/
abbrev MpE (w : World) (b : Nat) (lm : List ((Int × Int) × Unit)) : Prop := Mp enc2 ok2 (fun _ : Unit => Value.bool true) w b lm
theorem MpE.walks {w w' : World} {b : Nat} {lm : List ((Int × Int) × Unit)} (h : MpE w b lm) (hk : KeepsWalks w w') : MpE w' b lm := by
  obtain ⟨es, clock, hb, hs, hl⟩ := h.block
  exact h.keep ((hk.same b _ hb rfl).trans hb.symm)
set_option maxRecDepth 100000 in
set_option maxHeartbeats 1000000 in
theorem keysE1_in (n : Nat) (hn : 1 ≤ n) (l Bm b : Nat) (lm : List ((Int × Int) × Unit)) (J Jx : List (Int × Int) → World → Prop)
    (hY : ∀ pre x W, J pre W → pre.length < lm.length → YieldAt Fence.wide (n - 1) Tryz.prog l #[enc2 x] W fun e W' =>
      (e = .returned (.bool true) ∧ J (pre ++ [x]) W' ∧ KeepsWalks W W') ∨ (e = .returned (.bool false) ∧ Jx (pre ++ [x]) W'))
    (W : World) (hJ : AbidesFrom W.heap.size J) (hm : W.cell? ⟨Bm, 0, none⟩ = some (.map (some b))) (hmp : MpE W b lm) (hlm : lm.length ≤ maxLen) (h0 : J [] W) :
    CallsIn Fence.wide n Tryz.prog 35 #[.func (.yield l) #[] #[], .pointer (some ⟨Bm, 0, none⟩)] W fun e W' => (∃ v, e = .returned v) ∧
      ((∃ ss : List (Int × Int), ss.Perm (lm.map (·.1)) ∧ J ss W') ∨ (∃ pre : List (Int × Int), Jx pre W')) := by
  obtain ⟨D0, hown, hsz, hh1, hh2⟩ := hmp.owns keyE hlm
  have hok : ∀ x ∈ lm.map (·.1), ok2 x := fun x hx => by
    obtain ⟨p, hp, rfl⟩ := List.mem_map.1 hx
    exact hmp.keys p hp
  have hnd := hmp.nodup
  have hst := CollK.start hh1
  have HhY := Lib.hid hY; clear hY
  have HhJ := Lib.hid hJ; clear hJ
  have Hhh1 := Lib.hid hh1; clear hh1; have Hhh2 := Lib.hid hh2; clear hh2; have Hhok := Lib.hid hok; clear hok; have Hhnd := Lib.hid hnd; clear hnd; have Hhst := Lib.hid hst; clear hst; have Hhmp := Lib.hid hmp; clear hmp; have Hhsz := Lib.hid hsz; clear hsz
  refine callsIn_of_wp Tryz.func35 rfl trivial ?_ rfl
  simp only [Tryz.ntmps35, List.size_toArray, List.length_cons, List.length_nil, Nat.reduceAdd, Nat.reduceSub, Array.replicate_succ, Array.replicate_zero, List.push_toArray, List.append_toArray, List.nil_append, List.cons_append]
  gi_wp2_with (first
    | (gi_at_range; refine wpListIn_range_own _ rfl _ 45 rfl 34 4 lawE Tryz.underlying45 RU b maxLen D0 rfl hown ?_; intro w0 hrg0 hg0 hs0)
    | fail)
  go_frame
  gi_loopw [3] (fun _ wr => ∃ (left : Lit → Bool) (cnt : Nat) (ss : List (Int × Int)), wr.ranges Tryz.prog 34 RU b W.heap.size maxLen D0 left cnt ∧ ss.length + cnt ≤ lm.length ∧ CollK Tryz.prog 34 enc2 (lm.map (·.1)) left ss ∧ J ss wr)
    (fun _ wr => wr.rangeLeft b W.heap.size)
  case atStart => exact ⟨_, _, [], hrg0, by rw [Hhsz.out]; simp, Hhst.out, HhJ.out [] W w0 none h0 hg0 (fun r e => by cases e)⟩
  case round =>
    obtain ⟨left, cnt, ss, hrg, hcs, hC, hJs⟩ := hrel
    gi_wp2_with (first
      | (gi_at_next; refine wpListIn_next_ranges _ rfl _ rfl 34 lawE RU id id (fun key kl hk => ⟨key, rfl⟩) (fun v _ _ => ⟨v, rfl⟩) b W.heap.size maxLen _ _ _ rfl hrg ?_ ?_)
      | fail)
    · intro hc0 hl0
      gi_wp2_with fail
      go_end0
      exact ⟨⟨_, rfl⟩, .inl ⟨ss, hC.perm keyE Hhok.out Hhnd.out hl0, hJs⟩⟩
    · intro key c kl yd yp w2 cnt2 hkey hlk hv hat hrg2 hlt hg2 hs2 hen
      obtain ⟨x, hx, hxk⟩ := Hhh2.out kl (has_true_of_atKey hat)
      obtain rfl : key = enc2 x := lawE.inj hkey hxk
      have hJ2 : J ss w2 := HhJ.out ss wr w2 (some W.heap.size) hJs hg2 (fun r e => by cases e; exact ⟨Nat.le_refl _, hrg.iter_walk⟩)
      have hC2 := hC.step keyE Hhok.out hx hkey hlk
      obtain ⟨x1, x2⟩ := x
      simp only [enc2] at hen
      have hJ3 : J ss (w2.alloc (.cells #[.int .i64 x1, .int .i64 x2] 34)) := HhJ.out ss w2 _ none hJ2 (World.grownBy_alloc w2 _ none) (fun r e => by cases e)
      have hrg3 := hrg2.of_walks (KeepsWalks.alloc w2 (.cells #[.int .i64 x1, .int .i64 x2] 34))
      obtain ⟨fn, tmps, assign, body, hy, hR⟩ := HhY.out ss (x1, x2) _ hJ3 (by omega)
      simp only [enc2] at hy
      clear hs2 hv hat
      have Hhx := Lib.hid hx; clear hx; have HhC2 := Lib.hid hC2; clear hC2; have HhJ3 := Lib.hid hJ3; clear hJ3; have Hhrg3 := Lib.hid hrg3; clear hrg3
      gi_wp2_with fail
      refine hR.mono ?_
      rintro e W3 (⟨rfl, hJ4, hk4⟩ | ⟨rfl, hJx4⟩)
      · have hrg4 := Hhrg3.out.of_walks hk4
        have HhJ4 := Lib.hid hJ4; clear hJ4
        gi_wp2_with fail
        go_roundw
        case rel => exact ⟨_, cnt2, ss ++ [(x1, x2)], hrg4, by rw [List.length_append, List.length_singleton]; omega, HhC2.out, HhJ4.out⟩
        case measure => rw [hrg4.left_eq, hrg.left_eq]; exact hlt
      · gi_wp2_with fail
        refine bodyPost_ret (results_none rfl _ _ _) rfl ?_
        exact ⟨⟨_, rfl⟩, .inr ⟨_, hJx4⟩⟩
theorem keysE_stops (n : Nat) (hn : 1 ≤ n) (Bm b : Nat) (lm : List ((Int × Int) × Unit)) (w : World) (hBm : Bm < w.heap.size) (hm : w.cell? ⟨Bm, 0, none⟩ = some (.map (some b))) (hmp : MpE w b lm) (hlm : lm.length ≤ maxLen) :
    SeqStopsK Fence.wide n Tryz.prog 35 #[.pointer (some ⟨Bm, 0, none⟩)] (fun x : Int × Int => #[enc2 x]) KeepsWalks (fun ss => ss.Perm (lm.map (·.1))) (fun _ => True) lm.length w := fun l J Jx W hW hJ _ hY h0 => by
  refine (keysE1_in n hn l Bm b lm J Jx hY W hJ ((hW.cell (p := ⟨Bm, 0, none⟩) hBm).trans hm) (hmp.below hW hmp.lt) hlm h0).mono ?_
  rintro e W' ⟨h1, h2 | ⟨pre, h2⟩⟩
  · exact ⟨h1, .inl h2⟩
  · exact ⟨h1, .inr ⟨pre, trivial, h2⟩⟩
set_option maxHeartbeats 1000000 in
theorem keysE_calls (mb : Option Nat) (w : World) :
    Calls Tryz.prog 15 #[.map mb] w fun e w' => e = .returned (.func (.func 35) #[] #[.pointer (some ⟨w.heap.size, 0, none⟩)]) ∧ w' = w.alloc (.cells #[.map mb] 45) := by
  go_enter Tryz.func15, Tryz.ntmps15
  go_wp2
  go_ret
  exact ⟨rfl, rfl⟩
end Go.Proofs.YtckkpmjkajkkmaaGreat
