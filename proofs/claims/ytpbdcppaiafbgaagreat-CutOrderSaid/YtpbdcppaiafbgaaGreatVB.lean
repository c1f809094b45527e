/- The mirrored surface: plain. The law RingArounds, walked. The law RingTurns, walked. Walks: the document's Inner, Link, Near. The law RingTells, walked. Walks: soup.Mirror. -/
import Derived.Test.YtpbdcppaiafbgaaGreatMP
import Derived.Test.YtpbdcppaiafbgaaGreatTS
namespace Go.Mesh
section
variable {N : Int} {T : List T3}
end
end Go.Mesh

namespace Go.Proofs.YtpbdcppaiafbgaaGreat
open Go Go.RowKit Go.Words Go.Mesh

end Go.Proofs.YtpbdcppaiafbgaaGreat

namespace Go.Mesh
/-- From corner to corner around a vertex. -/
theorem Surf.turns {N : Int} {T : List T3} (h : Surf N T) {v : Int} {i : Nat} (hi : i < (ringAt T N v).length) :
    ((i + 1 < (ringAt T N v).length ∨ innerAt T N v = true) → ∃ x, opp T (nx (ringAt T N v)[i]) = some x ∧ x < 3 * T.length ∧ (ringAt T N v)[(i + 1) % (ringAt T N v).length]? = some (nx x)) ∧
    (¬ (i + 1 < (ringAt T N v).length) → innerAt T N v = false → opp T (nx (ringAt T N v)[i]) = none) := by
  rcases h.ring_or v with ⟨h1, _, _⟩ | ⟨hl, hv, hr⟩
  · rw [h1] at hi; simp at hi
  obtain ⟨b, hrun⟩ := hr.run
  have key : ∀ (d j : Nat), aft T (ringAt T N v)[i] = some d → (ringAt T N v)[j]? = some d → ∃ x, opp T (nx (ringAt T N v)[i]) = some x ∧ x < 3 * T.length ∧ (ringAt T N v)[j]? = some (nx x) := by
    intro d j hd hj
    unfold aft at hd
    obtain ⟨x, hx, rfl⟩ := Option.map_eq_some_iff.1 hd
    exact ⟨x, hx, (h.opp_iff.1 hx).1, hj⟩
  have hlast : ¬ (i + 1 < (ringAt T N v).length) → (ringAt T N v)[(ringAt T N v).length - 1]'(by omega) = (ringAt T N v)[i] := fun h9 => by congr 1; omega
  refine ⟨fun h9 => ?_, fun h9 h8 => ?_⟩
  · by_cases h7 : i + 1 < (ringAt T N v).length
    · rw [Nat.mod_eq_of_lt h7]
      exact key _ _ (hrun.steps i h7) (List.getElem?_eq_getElem h7)
    · have h6 := h9.resolve_left h7
      have := hr.turn hl h6
      rw [hlast h7] at this
      rw [show i + 1 = (ringAt T N v).length by omega, Nat.mod_self]
      exact key _ _ this (List.getElem?_eq_getElem hl)
  · have := (hr.last hl).2 h8
    rw [hlast h9] at this
    unfold aft at this
    simpa using this
end Go.Mesh
namespace Go.Proofs.YtpbdcppaiafbgaaGreat
open Go Go.RowKit Go.Words Go.Mesh

theorem tab_opp {w : World} {B : Nat} {tv : Value} {N : Int} {T : List T3} (h : TabN w B tv N T) (hs : Surf N T) {c : Nat} (hc : c < 3 * T.length) : Calls Tryz.prog 27 #[tv, .int .i64 (c : Int)] w fun e w' => e = .returned (.int .i64 (oi (opp T c))) ∧ Below w.heap.size w w' := by
  have := opp_calls (h.tab (fun h9 => by rw [h9] at hc; simp at hc)) hs (c : Int)
  rw [tOpp_at hc] at this
  exact this

end Go.Proofs.YtpbdcppaiafbgaaGreat

namespace Go.Proofs.YtpbdcppaiafbgaaGreat
open Go Go.RowKit Go.Words Go.Mesh

set_option maxRecDepth 20000 in
set_option maxHeartbeats 1000000 in
theorem refNear_calls {w : World} {B : Nat} {sv : Value} {N : Int} {T : List T3} (hT : Sl 3 RTri w B sv T) (hB0 : B ≤ w.heap.size) (hs : Surf N T) (x y : Int) :
    Calls Tryz.prog 33 #[.agg #[.int .i64 N, sv], .int .i64 x, .int .i64 y] w fun e w' => e = .returned (.bool (near T x y)) ∧ Below w.heap.size w w' := by
  obtain ⟨A, cap, rfl, hcap⟩ := hT.form
  have hb1 := (Below.refl w.heap.size w).alloc (Nat.le_refl _) (.cells #[.int .i64 N, .slice A T.length cap] 24)
  have hbox := Bk.new w 24 [.int .i64 N, .slice A T.length cap]
  have hTA := hT.below keeps_tri (hb1.mono hB0)
  have hbl := hbox.lt
  have c0 := hbox.cell 0
  have c1 := hbox.cell 1
  simp only [List.getElem?_cons_zero, List.getElem?_cons_succ] at c0 c1
  have hnear : near T x y = (((dirc T x y).map (· / 3)).isSome || ((dirc T y x).map (· / 3)).isSome) := by
    unfold near
    rw [hs.dirc_facing, hs.dirc_facing]
    simp
  rw [hnear]
  have hfew := hs.tmax
  generalize hw0 : w.alloc (.cells #[.int .i64 N, .slice A T.length cap] 24) = w0 at *
  have hz0 := hb1.size
  have hf := with_calls (N := N) hTA (by omega) hfew x y
  have hf2 := fun wz (hz : Sl 3 RTri wz B (.slice A T.length cap) T) (hz2 : B ≤ wz.heap.size) => with_calls (N := N) hz hz2 hfew y x
  generalize (dirc T x y).map (· / 3) = o1 at *
  generalize (dirc T y x).map (· / 3) = o2 at *
  cases o1 with
  | some c =>
    have hc : 0 ≤ oi (some c) := by simp [oi]
    rw [show ((some c).isSome || o2.isSome) = true from rfl]
    generalize oi (some c) = p at *
    have HhT := Lib.hid hT; have HhTA := Lib.hid hTA; have Hhbox := Lib.hid hbox; have Hhf := Lib.hid hf; have Hhf2 := Lib.hid hf2; have Hhs := Lib.hid hs; have Hhnear := Lib.hid hnear; clear hT hTA hbox hf hf2 hs hnear
    go_enter Tryz.func33, Tryz.ntmps33
    go_wp2_with fail
    clear hw0
    refine Hhf.out.mono ?_
    rintro e w1 ⟨rfl, hb2⟩
    go_wp2_with fail
    go_ret
    exact ⟨rfl, below_call hb1 hb2 hb1.size⟩
  | none =>
    have hc : oi none < 0 := by simp [oi]
    rw [show ((none : Option Nat).isSome || o2.isSome) = o2.isSome from rfl]
    generalize oi none = p at *
    have ho2 := oi_nonneg (o := o2)
    generalize oi o2 = q at *
    have HhT := Lib.hid hT; have HhTA := Lib.hid hTA; have Hhbox := Lib.hid hbox; have Hhf := Lib.hid hf; have Hhf2 := Lib.hid hf2; have Hhs := Lib.hid hs; have Hhnear := Lib.hid hnear; have Hho2 := Lib.hid ho2; clear hT hTA hbox hf hf2 hs hnear ho2
    go_enter Tryz.func33, Tryz.ntmps33
    go_wp2_with fail
    clear hw0
    refine Hhf.out.mono ?_
    rintro e w1 ⟨rfl, hb2⟩
    have hb3 := below_call hb1 hb2 hb1.size
    have hz1 := hb2.size
    have d0 : w1.cell? ⟨w.heap.size, 0, none⟩ = some (.int .i64 N) := (hb2.cell (p := ⟨w.heap.size, 0, none⟩) hbl).trans c0
    have d1 : w1.cell? ⟨w.heap.size, 1, none⟩ = some (.slice A T.length cap) := (hb2.cell (p := ⟨w.heap.size, 1, none⟩) hbl).trans c1
    have hf2 := Hhf2.out w1 (HhTA.out.below keeps_tri (hb2.mono (by omega))) (by omega)
    have Hhf2 := Lib.hid hf2; clear hf2
    go_wp2_with fail
    refine Hhf2.out.mono ?_
    rintro e w2 ⟨rfl, hb4⟩
    go_wp2_with fail
    go_ret
    exact ⟨ret_bool Hho2.out, below_call hb3 hb4 hb3.size⟩

end Go.Proofs.YtpbdcppaiafbgaaGreat

namespace Go.Proofs.YtpbdcppaiafbgaaGreat
open Go Go.RowKit Go.Words Go.Mesh

end Go.Proofs.YtpbdcppaiafbgaaGreat

namespace Go.Proofs.YtpbdcppaiafbgaaGreat
open Go Go.RowKit Go.Words Go.Mesh

theorem infoTri : (Tryz.prog.info? 57).map (fun i => (i.zero, i.size, i.bytes)) = some (some (.agg #[.int .i64 0, .int .i64 0, .int .i64 0]), 3, 24) := by kernel_rfl
theorem triVals_snoc : ∀ (T : List T3) (t : T3), triVals (T ++ [t]) = triVals T ++ [.int .i64 t.1, .int .i64 t.2.1, .int .i64 t.2.2]
  | [], _ => rfl
  | x :: T, t => by simp only [List.cons_append, triVals, triVals_snoc T t]
theorem sl_own_tris {w : World} {base : Nat} {v : Value} {T : List T3} (h : w.ownsRow base 57 3 v T.length (triVals T)) : Sl 3 RTri w w.heap.size v T :=
  Sl.of_own h fun i a hi => (triVals_at T i a hi).2
end Go.Proofs.YtpbdcppaiafbgaaGreat
