/- Walks: ref12's Walk and Loops; ref08's Alike and Ints. -/
import Derived.Test.YtckkpmjkajkkmaaBT
namespace Go.Mesh
theorem afI_some {T : List T3} {v a : Int} (h : aftV T v = some a) : afI T v = a := by unfold afI; rw [h]; rfl
theorem afI_none {T : List T3} {v : Int} (h : aftV T v = none) : afI T v = -1 := by unfold afI; rw [h]; rfl
end Go.Mesh
namespace Go.Proofs.Ytckkpmjkajkkmaa
open Go Go.RowKit Go.Words Go.Mesh

set_option maxRecDepth 20000 in
set_option maxHeartbeats 1000000 in
theorem rwalk12_calls {w : World} {B : Nat} {sv : Value} {N : Int} {T : List T3} (hT : Sl 3 RTri w B sv T) (hB0 : B ≤ w.heap.size) (hs : Surf N T) (v : Int) :
    Calls Try.prog 38 #[.agg #[.int .i64 N, sv], .int .i64 v] w fun e w' => (∃ r, e = .returned r ∧ w'.ownsRow w.heap.size 3 1 r (loopAt T N v).length (nvals (loopAt T N v))) ∧ Below w.heap.size w w' := by
  have hfew := hs.tmax
  obtain ⟨A, cap, rfl, hcap⟩ := hT.form
  have hbox := Bk.new w 24 [.int .i64 N, .slice A T.length cap]
  have hb1 := (Below.refl w.heap.size w).alloc (Nat.le_refl _) (.cells #[.int .i64 N, .slice A T.length cap] 24)
  have hTA := hT.below keeps_tri (hb1.mono hB0)
  have hle : B ≤ (w.alloc (.cells #[.int .i64 N, .slice A T.length cap] 24)).heap.size := by rw [World.size_alloc]; omega
  have c0 := hbox.cell 0
  have c1 := hbox.cell 1
  simp only [List.getElem?_cons_zero, List.getElem?_cons_succ] at c0 c1
  have hz0 : w.heap.size < (w.alloc (.cells #[.int .i64 N, .slice A T.length cap] 24)).heap.size := by rw [World.size_alloc]; omega
  generalize hw0 : w.alloc (.cells #[.int .i64 N, .slice A T.length cap] 24) = w0 at *
  have hv := fun wz (h9 : Below w0.heap.size w0 wz) c hc => v12_calls (N := N) (hTA.below keeps_tri (h9.mono hle)) (by have := h9.size; omega) hfew c hc
  have ho := fun wz (h9 : Below w0.heap.size w0 wz) c hc => opp12_calls (N := N) (hTA.below keeps_tri (h9.mono hle)) (by have := h9.size; omega) hfew c hc
  have hn := fun wz c (hc : c < 1000000) => next12_calls wz c hc
  have hp := fun wz c (hc : c < 1000000) => prev12_calls wz c hc
  have HhT := Lib.hid hT; clear hT; have HhTA := Lib.hid hTA; clear hTA; have Hhbox := Lib.hid hbox; clear hbox; have Hhv := Lib.hid hv; clear hv; have Hho := Lib.hid ho; clear ho; have Hhn := Lib.hid hn; clear hn; have Hhp := Lib.hid hp; clear hp
  have haf := fun wz (h9 : Below w0.heap.size w0 wz) x => after12_calls (N := N) (HhTA.out.below keeps_tri (h9.mono hle)) (by have := h9.size; omega) hs x
  have hln := hs.loop_len v
  have haf0 := haf w0 (Below.refl _ _) v
  cases hav : aftV T v with
  | none =>
    have h1 := loopAt_none (N := N) hav
    rw [afI_none hav] at haf0
    have Hhaf := Lib.hid haf; clear haf; have Hhaf0 := Lib.hid haf0; clear haf0; have Hhs := Lib.hid hs; clear hs; have Hhav := Lib.hid hav; clear hav
    rw [h1]
    go_enter Try.func38, Try.ntmps38
    go_wp2_with fail
    clear hw0
    refine Hhaf0.out.mono ?_
    rintro e w1 ⟨rfl, hb2⟩
    have hfi := hb1.trans (hb2.mono hb1.size)
    go_wp2_with fail
    go_ret
    exact ⟨⟨_, rfl, World.ownsRow_nil _ _ _ _⟩, hfi⟩
  | some a =>
    have hL := hs.loop_is hav
    rw [afI_some hav] at haf0
    have hr := hs.aftV_rng hav
    have ha0 : ¬ a < 0 := by omega
    have hv0 : ((v.toNat : Nat) : Int) = v := Int.toNat_of_nonneg hr.1.1
    generalize loopAt T N v = L at *
    have hne := hL.ne
    have hl0 : (L[0]'hne : Int) = v := by
      have := hL.head
      rw [List.getElem?_eq_getElem hne] at this
      rw [Option.some.inj this, hv0]
    have hin : ∀ (k : Nat) (h : k + 1 < L.length), afI T (L[k] : Int) = (L[k + 1] : Int) ∧ (L[k + 1] : Int) ≠ v := fun k h => by
      refine ⟨afI_some (hL.step k _ _ (List.getElem?_eq_getElem (by omega)) (List.getElem?_eq_getElem h)), fun e => ?_⟩
      have := (List.getElem_inj hL.nodup (i := k + 1) (j := 0) (h₀ := h) (h₁ := hne)).1 (by omega)
      omega
    have hout : ∀ (k : Nat) (h : k < L.length), k + 1 = L.length → afI T (L[k] : Int) = v := fun k h e => by
      refine afI_some (hL.last _ ?_)
      rw [← e, Nat.add_sub_cancel]
      exact List.getElem?_eq_getElem h
    have hl9 : L.length ≤ 24576 := by omega
    have Hhaf := Lib.hid haf; clear haf; have Hhaf0 := Lib.hid haf0; clear haf0; have Hhs := Lib.hid hs; clear hs; have Hhav := Lib.hid hav; clear hav; have HhL := Lib.hid hL; clear hL; have Hhin := Lib.hid hin; clear hin; have Hhout := Lib.hid hout; clear hout; have Hhl0 := Lib.hid hl0; clear hl0
    go_enter Try.func38, Try.ntmps38
    go_wp2_with fail
    clear hw0
    refine Hhaf0.out.mono ?_
    rintro e w1 ⟨rfl, hb2⟩
    go_wp2_with fail
    go_loopw [5, 6, 7] (fun l x i wr => ∃ (k : Nat) (hk : k < L.length), i = .int .i64 k ∧ x = .int .i64 (L[k] : Int) ∧ wr.ownsRow w0.heap.size 3 1 l (L.take k).length (nvals (L.take k)) ∧ Below w0.heap.size w0 wr) (fun _ _ i _ => L.length - (intOf i).toNat)
    case atStart => exact ⟨0, hne, rfl, by rw [Hhl0.out], World.ownsRow_nil _ _ _ _, hb2⟩
    case round =>
      obtain ⟨k, hk, rfl, rfl, hown, hbel⟩ := hrel
      have hz := hbel.size
      have c0r := (hbel.cell (p := ⟨w.heap.size, 0, none⟩) hz0).trans c0
      have c1r := (hbel.cell (p := ⟨w.heap.size, 1, none⟩) hz0).trans c1
      have hk3 : k ≤ 3 * T.length := by omega
      have hkt : (L.take k).length = k := by rw [List.length_take]; omega
      rw [hkt] at hown
      have htk : nvals (L.take k) ++ [.int .i64 (L[k] : Int)] = nvals (L.take (k + 1)) := by rw [List.take_succ_eq_append_getElem hk]; unfold nvals; rw [List.map_append]; rfl
      have hkt2 : (L.take (k + 1)).length = k + 1 := by rw [List.length_take]; omega
      have hins := Hhin.out k
      have houts := Hhout.out k hk
      have hafk := fun wz h9 => Hhaf.out wz h9 (L[k] : Int)
      generalize hxk : (L[k] : Int) = x at *
      have Hhown := Lib.hid hown; clear hown; have Hhtk := Lib.hid htk; clear htk; have Hhkt := Lib.hid hkt; clear hkt; have Hhkt2 := Lib.hid hkt2; clear hkt2; have Hhxk := Lib.hid hxk; clear hxk; have Hhins := Lib.hid hins; clear hins; have Hhouts := Lib.hid houts; clear houts; have Hhafk := Lib.hid hafk; clear hafk
      go_wp2_with (at_builtin; refine append_block _ rfl (.tmp 21) (.tmp 23) 28 rfl w0.heap.size info_int Try.underlying28 rfl (by decide) _ k (nvals (L.take k)) rfl (Hhown.out.alloc _) wr.heap.size [.int .i64 x] rfl (Bk.new _ _ _) rfl (by simp [Value.oneCell']) (by omega) (by omega) (by simp; omega) ?_; intro v1 w5 hown5 hb5 _ _; have hbel5 : Below w0.heap.size w0 w5 := (hbel.alloc hz _).trans hb5; have c0s : w5.cell? ⟨w.heap.size, 0, none⟩ = some (.int .i64 N) := (hbel5.cell (p := ⟨w.heap.size, 0, none⟩) hz0).trans c0; have c1s : w5.cell? ⟨w.heap.size, 1, none⟩ = some (.slice A T.length cap) := (hbel5.cell (p := ⟨w.heap.size, 1, none⟩) hz0).trans c1; have Hhown5 := Lib.hid hown5; clear hown5)
      refine (Hhafk.out w5 hbel5).mono ?_
      rintro e w6 ⟨rfl, hb6⟩
      have hbel6 := hbel5.trans (hb6.mono hbel5.size)
      have hown6 : w6.ownsRow w0.heap.size 3 1 v1 (L.take (k + 1)).length (nvals (L.take (k + 1))) := by
        rw [Hhkt2.out, ← Hhtk.out]
        exact own_below Hhown5.out hb6 (Nat.le_refl _)
      by_cases hk1 : k + 1 < L.length
      · obtain ⟨e1, e2⟩ := Hhins.out hk1
        rw [Hhxk.out] at e1
        rw [e1]
        have hb2 : ((L[k + 1] : Int) == v) = false := by simpa using e2
        obtain ⟨y, hy⟩ : ∃ y : Int, y = (L[k + 1] : Int) := ⟨_, rfl⟩
        rw [← hy] at hb2 ⊢
        have Hhown6 := Lib.hid hown6; clear hown6; have He1 := Lib.hid e1; clear e1; have He2 := Lib.hid e2; clear e2; have Hhy := Lib.hid hy; clear hy
        go_wp2_with fail
        exact ⟨⟨k + 1, hk1, by simp, by rw [Hhy.out], Hhown6.out, hbel6⟩, by simp [intOf]; omega⟩
      · have hkl : k + 1 = L.length := by omega
        have e1 := Hhouts.out hkl
        first | rw [Hhxk.out] at e1 | skip
        rw [e1]
        clear e1
        rw [hkl, List.take_length] at hown6
        have hfi := hb1.trans (hbel6.mono hb1.size)
        have Hhown6 := Lib.hid hown6; clear hown6
        go_wp2_with fail
        go_ret
        exact ⟨⟨_, rfl, own_base Hhown6.out (by omega)⟩, hfi⟩
set_option maxRecDepth 20000 in
set_option maxHeartbeats 1000000 in
theorem loops12_calls {w : World} {B : Nat} {sv : Value} {N : Int} {T : List T3} (hT : Sl 3 RTri w B sv T) (hB0 : B ≤ w.heap.size) (hs : Surf N T) :
    Calls Try.prog 37 #[.agg #[.int .i64 N, sv]] w fun e w' => (∃ r, e = .returned r ∧ OwnRows w' w.heap.size r (lps T N N.toNat)) ∧ Below w.heap.size w w' := by
  have hfew := hs.tmax
  obtain ⟨nN, rfl⟩ : ∃ nN : Nat, N = (nN : Int) := ⟨N.toNat, by have := hs.n0; omega⟩
  have hmax := hs.nmax
  rw [Int.toNat_natCast]
  obtain ⟨N, hNN⟩ : ∃ N : Int, N = (nN : Int) := ⟨_, rfl⟩
  rw [← hNN] at hs ⊢
  have hN9 : (nN : Int) = N := hNN.symm
  obtain ⟨A, cap, rfl, hcap⟩ := hT.form
  have hbox := Bk.new w 24 [.int .i64 N, .slice A T.length cap]
  have hb1 := (Below.refl w.heap.size w).alloc (Nat.le_refl _) (.cells #[.int .i64 N, .slice A T.length cap] 24)
  have hTA := hT.below keeps_tri (hb1.mono hB0)
  have hle : B ≤ (w.alloc (.cells #[.int .i64 N, .slice A T.length cap] 24)).heap.size := by rw [World.size_alloc]; omega
  have c0 := hbox.cell 0
  have c1 := hbox.cell 1
  simp only [List.getElem?_cons_zero, List.getElem?_cons_succ] at c0 c1
  have hz0 : w.heap.size < (w.alloc (.cells #[.int .i64 N, .slice A T.length cap] 24)).heap.size := by rw [World.size_alloc]; omega
  generalize hw0 : w.alloc (.cells #[.int .i64 N, .slice A T.length cap] 24) = w0 at *
  have hv := fun wz (h9 : Below w0.heap.size w0 wz) c hc => v12_calls (N := N) (hTA.below keeps_tri (h9.mono hle)) (by have := h9.size; omega) hfew c hc
  have ho := fun wz (h9 : Below w0.heap.size w0 wz) c hc => opp12_calls (N := N) (hTA.below keeps_tri (h9.mono hle)) (by have := h9.size; omega) hfew c hc
  have hn := fun wz c (hc : c < 1000000) => next12_calls wz c hc
  have hp := fun wz c (hc : c < 1000000) => prev12_calls wz c hc
  have HhT := Lib.hid hT; clear hT; have HhTA := Lib.hid hTA; clear hTA; have Hhbox := Lib.hid hbox; clear hbox; have Hhv := Lib.hid hv; clear hv; have Hho := Lib.hid ho; clear ho; have Hhn := Lib.hid hn; clear hn; have Hhp := Lib.hid hp; clear hp
  rw [hNN] at c0 hw0
  have hwk := fun wz (h9 : Below w0.heap.size w0 wz) x => rwalk12_calls (N := N) (HhTA.out.below keeps_tri (h9.mono hle)) (by have := h9.size; omega) hs x
  have hstep := fun k => hs.lps_step k
  have hlen := lps_len T N
  have hll := hs.loop_len
  rw [hNN] at hwk hstep hlen hll ⊢
  clear hN9
  have Hhs := Lib.hid hs; clear hs; have HhNN := Lib.hid hNN; clear hNN
  have Hhwk := Lib.hid hwk; clear hwk; have Hhstep := Lib.hid hstep; clear hstep; have Hhlen := Lib.hid hlen; clear hlen; have Hhll := Lib.hid hll; clear hll
  go_enter Try.func37, Try.ntmps37
  go_wp2_with fail
  clear hw0
  go_loopw [3, 4] (fun r i wr => ∃ k : Nat, k ≤ nN ∧ i = .int .i64 k ∧ OwnRows wr w0.heap.size r (lps T nN k) ∧ Below w0.heap.size w0 wr) (fun _ i _ => nN - (intOf i).toNat)
  case atStart => exact ⟨0, by omega, rfl, ⟨[], rfl, World.ownsRow_nil _ _ _ _, fun i v L h => by simp at h⟩, Below.refl _ _⟩
  case round =>
    obtain ⟨k, hk, rfl, hrows, hbel⟩ := hrel
    have hz := hbel.size
    have c0r := (hbel.cell (p := ⟨w.heap.size, 0, none⟩) hz0).trans c0
    have c1r := (hbel.cell (p := ⟨w.heap.size, 1, none⟩) hz0).trans c1
    by_cases hkn : k < nN
    · have hst := Hhstep.out k
      have hw := Hhwk.out wr hbel (k : Int)
      have hLs := Hhlen.out k
      have hL9 := Hhll.out (k : Int)
      generalize hG2 : lps T nN (k + 1) = Ls2 at *
      generalize lps T nN k = Ls at *
      generalize loopAt T nN (k : Int) = L at *
      have Hhrows := Lib.hid hrows; clear hrows; have Hhst := Lib.hid hst; clear hst; have Hhw := Lib.hid hw; clear hw; have HhG2 := Lib.hid hG2; clear hG2
      go_wp2_with fail
      refine Hhw.out.mono ?_
      rintro e w1 ⟨⟨r1, rfl, hown⟩, hb2⟩
      obtain ⟨A1, cap1, rfl, hc1⟩ := own_form hown
      have hbel1 := hbel.trans (hb2.mono hz)
      have hz1 := hb2.size
      obtain ⟨vs, v1, v2, v3⟩ := Hhrows.out
      have hr1 : OwnRows w1 w0.heap.size u3 Ls := ⟨vs, v1, own_below v2 hb2 (Nat.le_refl _), fun i v L e1 e2 => own_below (v3 i v L e1 e2) hb2 (Nat.le_refl _)⟩
      have Hhown := Lib.hid hown; clear hown; have Hhr1 := Lib.hid hr1; clear hr1; have Hv1 := Lib.hid v1; clear v1; have Hv2 := Lib.hid v2; clear v2; have Hv3 := Lib.hid v3; clear v3
      go_wp2_with fail
      go_loopw [6, 7] (fun bv j wz => ∃ (m : Nat) (b : Bool), m ≤ L.length ∧ j = .int .i64 m ∧ bv = .bool b ∧ (b = true ↔ 0 < L.length ∧ ∀ x ∈ L.take m, k ≤ x) ∧ wz = w1) (fun _ j _ => L.length - (intOf j).toNat)
      case atStart => exact ⟨0, _, by omega, rfl, rfl, by simp, rfl⟩
      case round =>
        obtain ⟨m, b, hm, rfl, rfl, hb, rfl⟩ := hrel
        by_cases hml : m < L.length
        · obtain ⟨g1, rfl⟩ := own_addr Hhown.out (by omega)
          obtain ⟨c5, hg5, hg5b⟩ := own_cell Hhown.out (nvals_at hml)
          have hmi : (m : Int) < (L.length : Int) := by omega
          have htm := List.take_succ_eq_append_getElem hml
          cases b with
          | true =>
            have hb2 : (decide ((k : Int) ≤ (L[m] : Int)) = true ↔ 0 < L.length ∧ ∀ x ∈ L.take (m + 1), k ≤ x) := by
              rw [htm]
              have h9 := hb.1 rfl
              rw [decide_eq_true_iff]
              constructor
              · intro h8
                refine ⟨h9.1, fun x hx => ?_⟩
                rcases List.mem_append.1 hx with h7 | h7
                · exact h9.2 x h7
                · have : x = L[m] := by simpa using h7
                  omega
              · intro h8
                have := h8.2 L[m] (List.mem_append_right _ (List.mem_singleton.2 rfl))
                omega
            generalize (L[m] : Int) = x at *
            have Hhb := Lib.hid hb; clear hb; have Hhb2 := Lib.hid hb2; clear hb2; have Hhtm := Lib.hid htm; clear htm
            go_wp2_with fail
            exact ⟨⟨m + 1, _, by omega, by simp, rfl, Hhb2.out, by trivial⟩, by simp [intOf]; omega⟩
          | false =>
            have hb2 : (false = true ↔ 0 < L.length ∧ ∀ x ∈ L.take (m + 1), k ≤ x) := by
              rw [htm]
              constructor
              · intro h8; cases h8
              · rintro ⟨h8, h7⟩
                exact hb.2 ⟨h8, fun x hx => h7 x (List.mem_append_left _ hx)⟩
            have Hhb := Lib.hid hb; clear hb; have Hhb2 := Lib.hid hb2; clear hb2; have Hhtm := Lib.hid htm; clear htm
            go_wp2_with fail
            exact ⟨⟨m + 1, _, by omega, by simp, rfl, Hhb2.out, by trivial⟩, by simp [intOf]; omega⟩
        · obtain rfl : m = L.length := by omega
          rw [List.take_length] at hb
          cases b with
          | false =>
            have hs2 : Ls2 = Ls := by rw [Hhst.out, if_neg (fun h9 => by cases hb.2 h9), List.append_nil]
            have Hhb := Lib.hid hb; clear hb; have Hhs2 := Lib.hid hs2; clear hs2
            go_wp2_with fail
            exact ⟨⟨k + 1, by omega, by simp, by rw [HhG2.out, Hhs2.out]; exact Hhr1.out, hbel1⟩, by simp [intOf]; omega⟩
          | true =>
            have hs2 : Ls2 = Ls ++ [L] := by rw [Hhst.out, if_pos (hb.1 rfl)]
            have hv2 := own_below Hv2.out hb2 (Nat.le_refl _)
            have hblk : ∀ j, u3.ownBlock = some j → w0.heap.size ≤ j := fun j hj => (hv2.lt j hj).1
            have Hhb := Lib.hid hb; clear hb; have Hhs2 := Lib.hid hs2; clear hs2; have Hhv2 := Lib.hid hv2; clear hv2; have Hhblk := Lib.hid hblk; clear hblk
            go_wp2_with (at_builtin; refine append_block _ rfl (.tmp 36) (.tmp 38) 44 rfl w0.heap.size infoRow Try.underlying44 rfl (by decide) u3 Ls.length vs rfl (Hhv2.out.alloc _) wr.heap.size [.slice A1 L.length cap1] rfl (Bk.new _ _ _) rfl (by simp [Value.oneCell']) (by omega) (by omega) (by simp; omega) ?_; intro v5 w5 hown5 hb5 hgr _; have Hhown5 := Lib.hid hown5; clear hown5; have Hhgr := Lib.hid hgr; clear hgr)
            have hbel5 : Below w0.heap.size w0 w5 := (hbel1.alloc (by omega) _).trans hb5
            have hA := Hhv2.out.alloc (.cells #[.slice A1 L.length cap1] 28)
            have hin5 : ∀ (v : Value) (L' : List Nat), wr.ownsRow w0.heap.size 3 1 v L'.length (nvals L') → w5.ownsRow w0.heap.size 3 1 v L'.length (nvals L') := fun v L' h9 => by
              have hB := h9.alloc (.cells #[.slice A1 L.length cap1] 28)
              exact hB.kept Hhgr.out (own_apart hA hB (by decide))
            have hrows5 : OwnRows w5 w0.heap.size v5 Ls2 := by
              rw [Hhs2.out]
              refine ⟨vs ++ [.slice A1 L.length cap1], by rw [List.length_append, List.length_append, Hv1.out]; rfl, by rw [List.length_append]; exact Hhown5.out, fun i v L' e1 e2 => ?_⟩
              have hv1 := Hv1.out
              by_cases hi9 : i < Ls.length
              · rw [List.getElem?_append_left (by omega)] at e1
                rw [List.getElem?_append_left hi9] at e2
                exact hin5 v L' (own_below (Hv3.out i v L' e1 e2) hb2 (Nat.le_refl _))
              · have hi8 : i = Ls.length := by
                  have := (List.getElem?_eq_some_iff.1 e2).1
                  rw [List.length_append] at this
                  simp only [List.length_cons, List.length_nil] at this
                  omega
                subst hi8
                rw [← hv1] at e1
                rw [List.getElem?_append_right (Nat.le_refl _)] at e1 e2
                simp only [Nat.sub_self, List.getElem?_cons_zero, Option.some.injEq] at e1 e2
                subst e1; subst e2
                exact hin5 _ _ (own_base Hhown.out (by omega))
            exact ⟨⟨k + 1, by omega, by simp, by rw [HhG2.out]; exact hrows5, hbel5⟩, by simp [intOf]; omega⟩
    · obtain rfl : k = nN := by omega
      have hfi := hb1.trans (hbel.mono hb1.size)
      obtain ⟨vs, v1, v2, v3⟩ := hrows
      have Hv1 := Lib.hid v1; clear v1; have Hv2 := Lib.hid v2; clear v2; have Hv3 := Lib.hid v3; clear v3
      go_wp2_with fail
      go_ret
      exact ⟨⟨_, rfl, vs, Hv1.out, own_base Hv2.out (by omega), fun i v L e1 e2 => own_base (Hv3.out i v L e1 e2) (by omega)⟩, hfi⟩
end Go.Proofs.Ytckkpmjkajkkmaa
