/- The mirrored surface: plain. The law RingArounds, walked. The law RingTurns, walked. Walks: the document's Inner, Link, Near. The law RingTells, walked. Walks: soup.Mirror. -/
import Derived.Test.YtpbdcppaiafbgaaGreatMP
import Derived.Test.YtpbdcppaiafbgaaGreatTS
namespace Go.Mesh
section
variable {N : Int} {T : List T3}
end
end Go.Mesh

namespace Go.Proofs.YtpbdcppaiafbgaaGreat
open Go Go.RowKit Go.Words Go.Mesh

end Go.Proofs.YtpbdcppaiafbgaaGreat

namespace Go.Mesh
theorem Surf.turns {N : Int} {T : List T3} (h : Surf N T) {v : Int} {i : Nat} (hi : i < (ringAt T N v).length) :
    ((i + 1 < (ringAt T N v).length ∨ innerAt T N v = true) → ∃ x, opp T (nx (ringAt T N v)[i]) = some x ∧ x < 3 * T.length ∧ (ringAt T N v)[(i + 1) % (ringAt T N v).length]? = some (nx x)) ∧
    (¬ (i + 1 < (ringAt T N v).length) → innerAt T N v = false → opp T (nx (ringAt T N v)[i]) = none) := by
  rcases h.ring_or v with ⟨h1, _, _⟩ | ⟨hl, hv, hr⟩
  · rw [h1] at hi; simp at hi
  obtain ⟨b, hrun⟩ := hr.run
  have key : ∀ (d j : Nat), aft T (ringAt T N v)[i] = some d → (ringAt T N v)[j]? = some d → ∃ x, opp T (nx (ringAt T N v)[i]) = some x ∧ x < 3 * T.length ∧ (ringAt T N v)[j]? = some (nx x) := by
    intro d j hd hj
    unfold aft at hd
    obtain ⟨x, hx, rfl⟩ := Option.map_eq_some_iff.1 hd
    exact ⟨x, hx, (h.opp_iff.1 hx).1, hj⟩
  have hlast : ¬ (i + 1 < (ringAt T N v).length) → (ringAt T N v)[(ringAt T N v).length - 1]'(by omega) = (ringAt T N v)[i] := fun h9 => by congr 1; omega
  refine ⟨fun h9 => ?_, fun h9 h8 => ?_⟩
  · by_cases h7 : i + 1 < (ringAt T N v).length
    · rw [Nat.mod_eq_of_lt h7]
      exact key _ _ (hrun.steps i h7) (List.getElem?_eq_getElem h7)
    · have h6 := h9.resolve_left h7
      have := hr.turn hl h6
      rw [hlast h7] at this
      rw [show i + 1 = (ringAt T N v).length by omega, Nat.mod_self]
      exact key _ _ this (List.getElem?_eq_getElem hl)
  · have := (hr.last hl).2 h8
    rw [hlast h9] at this
    unfold aft at this
    simpa using this
end Go.Mesh
namespace Go.Proofs.YtpbdcppaiafbgaaGreat
open Go Go.RowKit Go.Words Go.Mesh

end Go.Proofs.YtpbdcppaiafbgaaGreat

namespace Go.Proofs.YtpbdcppaiafbgaaGreat
open Go Go.RowKit Go.Words Go.Mesh

set_option maxRecDepth 20000 in
set_option maxHeartbeats 1000000 in
theorem refNear_calls {w : World} {B : Nat} {sv : Value} {N : Int} {T : List T3} (hT : Sl 3 RTri w B sv T) (hB0 : B ≤ w.heap.size) (hs : Surf N T) (x y : Int) :
    Calls Tryz.prog 33 #[.agg #[.int .i64 N, sv], .int .i64 x, .int .i64 y] w fun e w' => e = .returned (.bool (near T x y)) ∧ Below w.heap.size w w' := by
  obtain ⟨A, cap, rfl, hcap⟩ := hT.form
  have hb1 := (Below.refl w.heap.size w).alloc (Nat.le_refl _) (.cells #[.int .i64 N, .slice A T.length cap] 24)
  have hbox := Bk.new w 24 [.int .i64 N, .slice A T.length cap]
  have hTA := hT.below keeps_tri (hb1.mono hB0)
  have hbl := hbox.lt
  have c0 := hbox.cell 0
  have c1 := hbox.cell 1
  simp only [List.getElem?_cons_zero, List.getElem?_cons_succ] at c0 c1
  have hnear : near T x y = (((dirc T x y).map (· / 3)).isSome || ((dirc T y x).map (· / 3)).isSome) := by
    unfold near
    rw [hs.dirc_facing, hs.dirc_facing]
    simp
  rw [hnear]
  have hfew := hs.tmax
  generalize hw0 : w.alloc (.cells #[.int .i64 N, .slice A T.length cap] 24) = w0 at *
  have hz0 := hb1.size
  have hf := with_calls (N := N) hTA (by omega) hfew x y
  have hf2 := fun wz (hz : Sl 3 RTri wz B (.slice A T.length cap) T) (hz2 : B ≤ wz.heap.size) => with_calls (N := N) hz hz2 hfew y x
  generalize (dirc T x y).map (· / 3) = o1 at *
  generalize (dirc T y x).map (· / 3) = o2 at *
  cases o1 with
  | some c =>
    have hc : 0 ≤ oi (some c) := by simp [oi]
    rw [show ((some c).isSome || o2.isSome) = true from rfl]
    generalize oi (some c) = p at *
    have HhT := Lib.hid hT; have HhTA := Lib.hid hTA; have Hhbox := Lib.hid hbox; have Hhf := Lib.hid hf; have Hhf2 := Lib.hid hf2; have Hhs := Lib.hid hs; have Hhnear := Lib.hid hnear; clear hT hTA hbox hf hf2 hs hnear
    go_enter Tryz.func33, Tryz.ntmps33
    go_wp2_with fail
    clear hw0
    refine Hhf.out.mono ?_
    rintro e w1 ⟨rfl, hb2⟩
    go_wp2_with fail
    go_ret
    exact ⟨rfl, below_call hb1 hb2 hb1.size⟩
  | none =>
    have hc : oi none < 0 := by simp [oi]
    rw [show ((none : Option Nat).isSome || o2.isSome) = o2.isSome from rfl]
    generalize oi none = p at *
    have ho2 := oi_nonneg (o := o2)
    generalize oi o2 = q at *
    have HhT := Lib.hid hT; have HhTA := Lib.hid hTA; have Hhbox := Lib.hid hbox; have Hhf := Lib.hid hf; have Hhf2 := Lib.hid hf2; have Hhs := Lib.hid hs; have Hhnear := Lib.hid hnear; have Hho2 := Lib.hid ho2; clear hT hTA hbox hf hf2 hs hnear ho2
    go_enter Tryz.func33, Tryz.ntmps33
    go_wp2_with fail
    clear hw0
    refine Hhf.out.mono ?_
    rintro e w1 ⟨rfl, hb2⟩
    have hb3 := below_call hb1 hb2 hb1.size
    have hz1 := hb2.size
    have d0 : w1.cell? ⟨w.heap.size, 0, none⟩ = some (.int .i64 N) := (hb2.cell (p := ⟨w.heap.size, 0, none⟩) hbl).trans c0
    have d1 : w1.cell? ⟨w.heap.size, 1, none⟩ = some (.slice A T.length cap) := (hb2.cell (p := ⟨w.heap.size, 1, none⟩) hbl).trans c1
    have hf2 := Hhf2.out w1 (HhTA.out.below keeps_tri (hb2.mono (by omega))) (by omega)
    have Hhf2 := Lib.hid hf2; clear hf2
    go_wp2_with fail
    refine Hhf2.out.mono ?_
    rintro e w2 ⟨rfl, hb4⟩
    go_wp2_with fail
    go_ret
    exact ⟨ret_bool Hho2.out, below_call hb3 hb4 hb3.size⟩

theorem own_addr {w : World} {base : Nat} {e : TypeId} {size n cap : Nat} {A : Option Addr} {xs : List Value} (h : w.ownsRow base e size (.slice A n cap) n xs) (hn : 0 < n) : ∃ g, A = some ⟨g, 0, none⟩ := by
  obtain ⟨m, rfl⟩ : ∃ m, n = m + 1 := ⟨n - 1, by omega⟩
  obtain ⟨g', c', h8⟩ := ownsRow_succ h
  injection h8 with h8
  exact ⟨_, h8⟩
theorem inner_head {N : Int} {T : List T3} (hs : Surf N T) {v : Int} (hl : 0 < (ringAt T N v).length) : ((dirc T (Mesh.vt T (nx (ringAt T N v)[0])) v).map (· / 3)).isSome = innerAt T N v := by
  rcases hs.ring_or v with ⟨h1, _, _⟩ | ⟨_, hv, hr⟩
  · rw [h1] at hl; simp at hl
  have hm := (hr.mem _).1 (List.getElem_mem hl)
  have h2 := hs.dirc_bef (ringAt T N v)[0]
  rw [hm.2] at h2
  rw [h2]
  have h3 := hr.head hl
  cases hb : bef T (ringAt T N v)[0] with
  | none => rw [h3.1 hb]; rfl
  | some d =>
    cases hi : innerAt T N v with
    | true => rfl
    | false => rw [h3.2 hi] at hb; cases hb
set_option maxRecDepth 20000 in
set_option maxHeartbeats 1000000 in
theorem refInner_calls {w : World} {B : Nat} {sv : Value} {N : Int} {T : List T3} (hT : Sl 3 RTri w B sv T) (hB0 : B ≤ w.heap.size) (hs : Surf N T) (v : Int) :
    Calls Tryz.prog 114 #[.agg #[.int .i64 N, sv], .int .i64 v] w fun e w' => e = .returned (.bool (innerAt T N v)) ∧ Below w.heap.size w w' := by
  obtain ⟨A, cap, rfl, hcap⟩ := hT.form
  have hb1 := (Below.refl w.heap.size w).alloc (Nat.le_refl _) (.cells #[.int .i64 N, .slice A T.length cap] 24)
  have hbox := Bk.new w 24 [.int .i64 N, .slice A T.length cap]
  have hTA := hT.below keeps_tri (hb1.mono hB0)
  have hbl := hbox.lt
  have c0 := hbox.cell 0
  have c1 := hbox.cell 1
  simp only [List.getElem?_cons_zero, List.getElem?_cons_succ] at c0 c1
  have hfew := hs.tmax
  generalize hw0 : w.alloc (.cells #[.int .i64 N, .slice A T.length cap] 24) = w0 at *
  have hz0 := hb1.size
  have hra := refAround_calls hTA (by omega) hs v
  have HhT := Lib.hid hT; have HhTA := Lib.hid hTA; have Hhbox := Lib.hid hbox; have Hhs := Lib.hid hs; have Hhra := Lib.hid hra; clear hT hTA hbox hs hra
  go_enter Tryz.func114, Tryz.ntmps114
  go_wp2_with fail
  clear hw0
  refine Hhra.out.mono ?_
  rintro e w1 ⟨⟨r, rfl, hown⟩, hb2⟩
  have hb3 := below_call hb1 hb2 hb1.size
  have hz1 := hb2.size
  have d0 : w1.cell? ⟨w.heap.size, 0, none⟩ = some (.int .i64 N) := (hb2.cell (p := ⟨w.heap.size, 0, none⟩) hbl).trans c0
  have d1 : w1.cell? ⟨w.heap.size, 1, none⟩ = some (.slice A T.length cap) := (hb2.cell (p := ⟨w.heap.size, 1, none⟩) hbl).trans c1
  have hT1 := HhTA.out.below keeps_tri (hb2.mono (by omega))
  obtain ⟨A2, cap2, rfl, hc2⟩ := own_form hown
  by_cases hl0 : 0 < (ringAt T N v).length
  · have hih := inner_head Hhs.out hl0
    have hm := ((Hhs.out.ring_mem v _).1 (List.getElem_mem hl0)).1
    have hl0' : 0 < ((ringAt T N v).length : Int) := by omega
    generalize ringAt T N v = L at *
    generalize hI : innerAt T N v = I9 at *
    obtain ⟨g, rfl⟩ := own_addr hown hl0
    obtain ⟨hcell, hgr, -⟩ := own_nat_at hown rfl hl0
    have hbh := behind_calls (N := N) (hT1.below keeps_tri (Below.refl _ w1).drew) (by show B ≤ w1.heap.size; omega) hfew L[0] 1 hm (.inl rfl)
    rw [vt_one] at hbh
    have hwi := fun wz (hz : Sl 3 RTri wz B (.slice A T.length cap) T) (hz2 : B ≤ wz.heap.size) => with_calls (N := N) hz hz2 hfew (Mesh.vt T (nx L[0])) v
    generalize (dirc T (Mesh.vt T (nx L[0])) v).map (· / 3) = o9 at *
    generalize Mesh.vt T (nx L[0]) = q at *
    generalize hlk : L[0] = lk at *
    have hon := oi_nonneg (o := o9)
    rw [hih] at hon
    generalize oi o9 = r9 at *
    have Hhown := Lib.hid hown; have HhT1 := Lib.hid hT1; have Hhbh := Lib.hid hbh; have Hhwi := Lib.hid hwi; have Hhih := Lib.hid hih; have Hhon := Lib.hid hon; have Hhlk := Lib.hid hlk; have HhI := Lib.hid hI; clear hown hT1 hbh hwi hih hon hlk hI
    go_wp2_with fail
    refine Go.Canon.wp_region_tree [4] (fun b => b = w.heap.size) (.seg [0,1,2,3,4,5,6,7,8,10] (.alt 9 (.alt 11 (.seg [12,13,14] .fin) .no) .no)) mixed (by kernel_rfl) ?_
    refine Go.Canon.tr_seg ?_
    simp only [List.map_cons, List.map_nil, List.getD_cons_zero, List.getD_cons_succ]
    go_wp2_with fail
    refine Go.Canon.tr_to (Go.Canon.tr_one ?_)
    simp only [List.getD_cons_zero, List.getD_cons_succ]
    go_wp2_with fail
    refine Hhbh.out.mono ?_
    rintro e w2 ⟨rfl, hb4⟩
    have hbr : Below w1.heap.size w1 w2 := (Below.refl _ w1).drew.trans hb4
    have hz2 := hbr.size
    go_wp2_with fail
    refine Go.Canon.tr_end (fun b h9 => by subst h9; exact hbr.block _ (by omega)) (Go.Canon.tr_one ?_)
    simp only [List.getD_cons_zero, List.getD_cons_succ]
    go_wp2_with fail
    refine (Hhwi.out w2 (HhT1.out.below keeps_tri (hbr.mono (by omega))) (by omega)).mono ?_
    rintro e w3 ⟨rfl, hb5⟩
    have hbr3 := hbr.trans (hb5.mono hz2)
    go_wp2_with fail
    refine Go.Canon.tr_end (fun b h9 => by subst h9; exact hbr3.block _ (by omega)) (Go.Canon.tr_seg ?_)
    simp only [List.map_cons, List.map_nil, List.getD_cons_zero, List.getD_cons_succ]
    go_wp2_with fail
    refine Go.Canon.tr_to (Go.Canon.tr_fin (by rfl) (List.forall_mem_cons.2 ⟨.inl ⟨_, rfl, rfl, by rw [World.cell?_drew, d0]; rfl⟩, fun _ h => by cases h⟩) ?_)
    go_wp2_with fail
    go_ret
    exact ⟨ret_bool (Hhon.out.trans HhI.out.symm), below_call hb3 hbr3 hb3.size⟩
  · have hL : ringAt T N v = [] := by cases h9 : ringAt T N v with
      | nil => rfl
      | cons a l => rw [h9] at hl0; simp at hl0
    have hin : innerAt T N v = false := by
      rcases Hhs.out.ring_or v with ⟨_, _, h3⟩ | ⟨h3, _, _⟩
      · exact h3
      · exact absurd h3 hl0
    have hll : ((ringAt T N v).length : Int) = 0 := by omega
    rw [hL] at hown hc2 ⊢
    simp only [List.length_nil] at hown hc2 ⊢
    have Hhown := Lib.hid hown; have HhT1 := Lib.hid hT1; have HhL := Lib.hid hL; have Hhin := Lib.hid hin; have Hhll := Lib.hid hll; clear hown hT1 hL hin hll
    go_wp2_with fail
    refine Go.Canon.wp_region_tree [4] (fun b => b = w.heap.size) (.seg [0,1,2,3,4,5,6,7,8,10] (.alt 9 (.alt 11 (.seg [12,13,14] .fin) .no) .no)) mixed (by kernel_rfl) ?_
    refine Go.Canon.tr_seg ?_
    simp only [List.map_cons, List.map_nil, List.getD_cons_zero, List.getD_cons_succ]
    go_wp2_with fail
    refine Go.Canon.tr_to (Go.Canon.tr_one ?_)
    simp only [List.getD_cons_zero, List.getD_cons_succ]
    go_wp2_with fail
    refine Go.Canon.tr_end (fun _ _ => rfl) (Go.Canon.tr_one ?_)
    simp only [List.getD_cons_zero, List.getD_cons_succ]
    go_wp2_with fail
    refine Go.Canon.tr_end (fun _ _ => rfl) (Go.Canon.tr_seg ?_)
    simp only [List.map_cons, List.map_nil, List.getD_cons_zero, List.getD_cons_succ]
    go_wp2_with fail
    refine Go.Canon.tr_to (Go.Canon.tr_fin (by rfl) (List.forall_mem_cons.2 ⟨.inl ⟨_, rfl, rfl, by rw [World.cell?_drew, d0]; rfl⟩, fun _ h => by cases h⟩) ?_)
    go_wp2_with fail
    go_ret
    exact ⟨ret_bool Hhin.out.symm, hb3.drew⟩

end Go.Proofs.YtpbdcppaiafbgaaGreat

namespace Go.Proofs.YtpbdcppaiafbgaaGreat
open Go Go.RowKit Go.Words Go.Mesh

end Go.Proofs.YtpbdcppaiafbgaaGreat

namespace Go.Proofs.YtpbdcppaiafbgaaGreat
open Go Go.RowKit Go.Words Go.Mesh

end Go.Proofs.YtpbdcppaiafbgaaGreat
