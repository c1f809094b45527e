/- Walks: ring.first. Walks: ring.Around's iterator. Walks: ring's Inner, Near, Degree. Walks: the law's list of corners around a vertex. Walks: ring.Link. -/
import Derived.Test.YtpbdcppaiafbgaaGreatME
import Derived.Test.YtpbdcppaiafbgaaGreatMP
import Derived.RangeFuncNested
import Derived.RangeFuncBound
import Derived.RangeFuncCalls
import Derived.RangeFuncLeaves
import Derived.Shelf.Abstract
import Derived.Shelf.RegionOpen
import Derived.WalkKit
import Derived.OwnWalkIn
import Derived.TacticsInMore
import Derived.LoopNIn
import Derived.LoopIn
import Derived.Test.YtpbdcppaiafbgaaGreatTree
import Derived.Maps.AppendAt
namespace Go.Proofs.YtpbdcppaiafbgaaGreat
open Go Go.RowKit Go.Words Go.Mesh

set_option maxRecDepth 20000 in
theorem first_calls {w : World} {B : Nat} {tv : Value} {N : Int} {T : List T3} (h : Tab w B tv N T) (hs : Surf N T) (v : Int) (hv : 0 ≤ v ∧ v < N) :
    Calls Tryz.prog 81 #[tv, .int .i64 v] w fun e w' => (∃ b, cornerOf T v = some b ∧ e = .returned (.tuple #[.int .i64 ((begins T b).1 : Int), .bool (begins T b).2])) ∧ RowKit.Below w.heap.size w w' := by
  have hle := h.le
  have hc := corner_calls h hs v
  obtain ⟨c, hc0, hcv⟩ := hs.used v hv.1 hv.2
  obtain ⟨b, hb⟩ := leastFrom_isSome (p := fun d => Mesh.vt T d == v) (n := 3 * T.length) (k := 0) (c := c) (by omega) (by omega) (by simp [hcv])
  have hb : cornerOf T v = some b := hb
  have hr : tCorn T N v = (b : Int) := by unfold tCorn; rw [if_pos hv, hb]; rfl
  rw [hr] at hc
  have hblt : b < 3 * T.length := by
    obtain ⟨_, h2, _⟩ := (leastFrom_some _ _ _ _).1 hb
    omega
  have hrun := hs.back hblt
  generalize hl : runF (bef T) b (3 * T.length) b = l at *
  have hfew : T.length ≤ 8192 := hs.tmax
  have Hh := Lib.hid h; clear h; have Hhs := Lib.hid hs; clear hs; have Hhc := Lib.hid hc; clear hc; have Hhb := Lib.hid hb; clear hb; have Hhrun := Lib.hid hrun; clear hrun
  go_enter Tryz.func81, Tryz.ntmps81
  go_wp2_with fail
  refine Hhc.out.mono ?_
  rintro e w1 ⟨rfl, rfl⟩
  go_wp2_with fail
  go_loopw [7] (fun x wr => ∃ (i : Nat) (hi : i < l.length), x = .int .i64 (l[i] : Int) ∧ Below w1.heap.size w1 wr) (fun x _ => l.length - l.idxOf (intOf x).toNat)
  case atStart => exact ⟨0, Hhrun.out.ne, by rw [Hhrun.out.head], Below.refl _ _⟩
  case round =>
    obtain ⟨i, hi, rfl, hbel⟩ := hrel
    have hrun := Hhrun.out
    have hx := hrun.lt _ (List.getElem_mem hi)
    have hcal := before_calls (Hh.out.below hbel hle) Hhs.out l[i] hx
    have hlast : i + 1 < l.length ∨ i + 1 = l.length := by omega
    have hgl : i + 1 = l.length → l.getLastD b = l[i] := by
      intro h9
      rw [List.getLastD_eq_getLast?, List.getLast?_eq_getElem?, show l.length - 1 = i from by omega, List.getElem?_eq_getElem hi]
      rfl
    have hbeg : begins T b = if bef T (l.getLastD b) = none then (l.getLastD b, true) else (b, false) := by unfold begins; rw [hl]
    have hidx : ∀ j (hj : j < l.length), l.idxOf l[j] = j := fun j hj => hrun.nodup.idxOf_getElem j hj
    have hm1 := hidx i hi
    cases hbf : bef T l[i] with
    | none =>
      rw [hbf] at hcal
      have hend : i + 1 = l.length := by
        rcases hlast with h9 | h9
        · have := hrun.steps i h9
          rw [hbf] at this; cases this
        · exact h9
      have hbe : begins T b = (l[i], true) := by rw [hbeg, hgl hend, hbf]; rfl
      generalize l[i] = y at *
      change Calls _ _ _ _ fun e w' => e = .returned (.int .i64 (-1)) ∧ _ at hcal
      have Hhcal := Lib.hid hcal; clear hcal; have Hhrun := Lib.hid hrun; clear hrun; have Hhgl := Lib.hid hgl; clear hgl; have Hhbeg := Lib.hid hbeg; clear hbeg; have Hhidx := Lib.hid hidx; clear hidx; have Hhbe := Lib.hid hbe; clear hbe; have Hhm1 := Lib.hid hm1; clear hm1; have Hhbf := Lib.hid hbf; clear hbf
      go_wp2_with fail
      refine Hhcal.out.mono ?_
      rintro e w2 ⟨rfl, hb2⟩
      have hb3 := below_call hbel hb2 hbel.size
      go_wp2
      exact bodyPost_ret (results_tmp2 rfl _ _ _) rfl ⟨⟨b, Hhb.out, by rw [Hhbe.out]; rfl⟩, hb3⟩
    | some d =>
      rw [hbf] at hcal
      by_cases hdb : d = b
      · subst hdb
        have hend : i + 1 = l.length := by
          rcases hlast with h9 | h9
          · have h8 := hrun.steps i h9
            rw [hbf] at h8
            have h7 : l[i + 1] = l[0]'(hrun.ne) := by rw [hrun.head]; exact (Option.some.inj h8).symm
            have := (List.getElem_inj hrun.nodup).1 h7
            omega
          · exact h9
        have hbe : begins T d = (d, false) := by rw [hbeg, hgl hend, hbf]; rfl
        generalize l[i] = y at *
        change Calls _ _ _ _ fun e w' => e = .returned (.int .i64 (d : Int)) ∧ _ at hcal
        have Hhcal := Lib.hid hcal; clear hcal; have Hhrun := Lib.hid hrun; clear hrun; have Hhgl := Lib.hid hgl; clear hgl; have Hhbeg := Lib.hid hbeg; clear hbeg; have Hhidx := Lib.hid hidx; clear hidx; have Hhbe := Lib.hid hbe; clear hbe; have Hhm1 := Lib.hid hm1; clear hm1; have Hhbf := Lib.hid hbf; clear hbf
        go_wp2_with fail
        refine Hhcal.out.mono ?_
        rintro e w2 ⟨rfl, hb2⟩
        have hb3 := below_call hbel hb2 hbel.size
        go_wp2
        exact bodyPost_ret (results_tmp2 rfl _ _ _) rfl ⟨⟨d, Hhb.out, by rw [Hhbe.out]; rfl⟩, hb3⟩
      · have hnext : ∃ h9 : i + 1 < l.length, d = l[i + 1] := by
          rcases hlast with h9 | h9
          · refine ⟨h9, ?_⟩
            have h8 := hrun.steps i h9
            rw [hbf] at h8
            exact Option.some.inj h8
          · exfalso
            have h8 := hrun.last
            have h7 : l[l.length - 1]'(by omega) = l[i] := by congr 1; omega
            rw [h7, hbf] at h8
            rcases h8 with h8 | h8
            · cases h8
            · exact hdb (Option.some.inj h8)
        obtain ⟨h9, hd⟩ := hnext
        have hm2 := hidx (i + 1) h9
        have hdb' : (d : Int) ≠ (b : Int) := by omega
        have hmeas : l.length - (i + 1) < l.length - i := by omega
        generalize l[i] = y at *
        change Calls _ _ _ _ fun e w' => e = .returned (.int .i64 (d : Int)) ∧ _ at hcal
        have Hhcal := Lib.hid hcal; clear hcal; have Hhrun := Lib.hid hrun; clear hrun; have Hhgl := Lib.hid hgl; clear hgl; have Hhbeg := Lib.hid hbeg; clear hbeg; have Hhidx := Lib.hid hidx; clear hidx; have Hhm1 := Lib.hid hm1; clear hm1; have Hhm2 := Lib.hid hm2; clear hm2; have Hhbf := Lib.hid hbf; clear hbf
        go_wp2_with fail
        refine Hhcal.out.mono ?_
        rintro e w2 ⟨rfl, hb2⟩
        have hb3 := below_call hbel hb2 hbel.size
        go_wp2
        exact ⟨⟨i + 1, h9, rfl, hb3⟩, by simpa [Hhm1.out, Hhm2.out, intOf] using hmeas⟩
end Go.Proofs.YtpbdcppaiafbgaaGreat

namespace Go.Mesh
abbrev Cor (T : List T3) := { c : Nat // c < 3 * T.length }
theorem cors_of {T : List T3} {l : List Nat} (h : ∀ c ∈ l, c < 3 * T.length) : ∃ lc : List (Cor T), lc.map (·.1) = l :=
  ⟨l.pmap (fun c hc => ⟨c, hc⟩) h, by rw [List.map_pmap]; simp⟩
end Go.Mesh
namespace Go.Proofs.YtpbdcppaiafbgaaGreat
open Go Go.RowKit Go.Words Go.Mesh
attribute [local go_sem] Oper.semAt_some

theorem grown_below {w w' : World} (h : Below w.heap.size w w') : w.grownBy w' none := ⟨h.os, h.tape, h.output, h.size, fun k hk _ => h.block k hk⟩
theorem abides_below {β : Type} {B : Nat} {J : β → World → Prop} (h : AbidesFrom B J) {s : β} {w w' : World} (hs : J s w) (hb : Below w.heap.size w w') : J s w' := h s w w' none hs (grown_below hb) (fun r e => by cases e)
def KeepB (n₀ Bt : Nat) (W W' : World) : Prop := Below n₀ W W' ∧ W'.cell? ⟨Bt, 0, none⟩ = W.cell? ⟨Bt, 0, none⟩
theorem keepB_t {n₀ Bt : Nat} {A B C : World} (h : KeepB n₀ Bt A B) (k : KeepB n₀ Bt B C) : KeepB n₀ Bt A C := ⟨h.1.trans k.1, k.2.trans h.2⟩
theorem keepB_b {n₀ Bt : Nat} {w : World} (hn : n₀ ≤ w.heap.size) (hBt : Bt < w.heap.size) (W : World) (l : Nat) (o o' : Obj) (hl : w.heap.size ≤ l) (h : W.heap[l]? = some o) (h1 : o.isCells = false) (h2 : o.isWalk = false) : KeepB n₀ Bt W (W.putObj l o') :=
  ⟨belowK_b hn W l o o' hl h h1 h2, by unfold World.cell?; rw [World.putObj_heap_other (by simp only; omega)]⟩
set_option maxRecDepth 20000 in
set_option maxHeartbeats 1000000 in
theorem around1_in (n : Nat) (hn : 1 ≤ n) (l Bt Bv n₀ B : Nat) (tv : Value) (N : Int) (T : List T3) (v : Int) (hs : Surf N T) (hB : B ≤ n₀) (J Jx : List (Cor T) → World → Prop)
    (hY : ∀ pre x W, J pre W → pre.length < 3 * T.length + 1 → YieldAt Fence.wide (n - 1) Tryz.prog l #[.int .i64 (x.1 : Int)] W fun e W' =>
      (e = .returned (.bool true) ∧ J (pre ++ [x]) W' ∧ KeepB n₀ Bt W W') ∨ (e = .returned (.bool false) ∧ Jx (pre ++ [x]) W'))
    (W : World) (hBt : Bt < W.heap.size) (hJ : AbidesFrom W.heap.size J) (ht : W.cell? ⟨Bt, 0, none⟩ = some tv) (hv : W.cell? ⟨Bv, 0, none⟩ = some (.int .i64 v)) (htab : Tab W B tv N T) (h0 : J [] W) :
    CallsIn Fence.wide n Tryz.prog 124 #[.func (.yield l) #[] #[], .pointer (some ⟨Bt, 0, none⟩), .pointer (some ⟨Bv, 0, none⟩)] W fun e W' => (∃ v, e = .returned v) ∧
      ((∃ ys : List (Cor T), ys.map (·.1) = ringAt T N v ∧ J ys W') ∨ (∃ pre : List (Cor T), pre.map (·.1) <+: ringAt T N v ∧ Jx pre W')) := by
  have hth := there_calls htab hs v
  refine callsIn_of_wp Tryz.func124 rfl trivial ?_ rfl
  simp only [Tryz.ntmps124, List.size_toArray, List.length_cons, List.length_nil, Nat.reduceAdd, Nat.reduceSub, Array.replicate_succ, Array.replicate_zero, List.push_toArray, List.append_toArray, List.nil_append, List.cons_append]
  obtain ⟨tv', rfl⟩ : ∃ t, tv = .pointer t := by
    obtain ⟨g, _, _, _, _, _, rfl, _⟩ := htab
    exact ⟨_, rfl⟩
  have Hhth := Lib.hid hth; clear hth; have Hhtab := Lib.hid htab; clear htab; have HhY := Lib.hid hY; clear hY; have HhJ := Lib.hid hJ; clear hJ
  by_cases hin : 0 ≤ v ∧ v < N
  case neg =>
    have hr : ringAt T N v = [] := by unfold ringAt; rw [if_neg hin]
    have hth := Hhth.out
    rw [decide_eq_false hin] at hth
    gi_wp2_with fail
    refine ⟨trivial, (callsIn_wide.2 hth).mono ?_⟩
    rintro e w' ⟨rfl, rfl⟩
    gi_wp2
    refine bodyPost_ret (results_none rfl _ _ _) rfl ?_
    exact ⟨⟨_, rfl⟩, .inl ⟨[], by rw [hr]; rfl, h0⟩⟩
  case pos =>
    have hth := Hhth.out
    rw [decide_eq_true hin] at hth
    obtain ⟨b, hb⟩ := hs.corner_some hin.1 hin.2
    have hfi := first_calls Hhtab.out hs v hin
    obtain ⟨hrun, -, -⟩ := hs.ring hin.1 hin.2 hb
    have hr : ringAt T N v = runF (aft T) (begins T b).1 (3 * T.length) (begins T b).1 := by unfold ringAt; rw [if_pos hin, hb]
    rw [← hr] at hrun
    have hfew := hs.tmax
    have hfi : Calls Tryz.prog 81 #[.pointer tv', .int .i64 v] W fun e w' => e = .returned (.tuple #[.int .i64 ((begins T b).1 : Int), .bool (begins T b).2]) ∧ Below W.heap.size W w' := by
      refine hfi.mono ?_
      rintro e w' ⟨⟨b', hb', he⟩, h9⟩
      rw [hb] at hb'
      obtain rfl := Option.some.inj hb'
      exact ⟨he, h9⟩
    clear hr
    generalize ringAt T N v = L at *
    generalize (begins T b).1 = x0 at *
    generalize (begins T b).2 = bo at *
    obtain ⟨lc, hlc⟩ := cors_of hrun.lt
    subst hlc
    have hle := Hhtab.out.le
    have Hhfi := Lib.hid hfi; clear hfi; have Hhrun := Lib.hid hrun; clear hrun
    gi_wp2_with fail
    refine ⟨trivial, (callsIn_wide.2 hth).mono ?_⟩
    clear hth
    rintro e w' ⟨rfl, rfl⟩
    gi_wp2_with fail
    refine ⟨trivial, (callsIn_wide.2 Hhfi.out).mono ?_⟩
    rintro e w1 ⟨rfl, hb1⟩
    have ht1 := (hb1.cell (p := ⟨Bt, 0, none⟩) (by show Bt < _; omega)).trans ht
    have htab1 := Hhtab.out.below hb1 hle
    have hJ1 := abides_below HhJ.out h0 hb1
    have Hhtab1 := Lib.hid htab1; clear htab1; have HhJ1 := Lib.hid hJ1; clear hJ1
    gi_wp2_with fail
    gi_loopw [6] (fun x wr => ∃ (i : Nat) (hi : i < lc.length), x = .int .i64 ((lc[i]).1 : Int) ∧ J (lc.take i) wr ∧ Tab wr B (.pointer tv') N T ∧ wr.cell? ⟨Bt, 0, none⟩ = some (.pointer tv') ∧ w'.heap.size ≤ wr.heap.size) (fun x _ => lc.length - (lc.map (·.1)).idxOf (intOf x).toNat)
    case atStart =>
      have h0 := Hhrun.out.ne
      have h2 := Hhrun.out.head
      simp only [List.getElem_map] at h2
      exact ⟨0, by simpa using h0, by rw [h2], HhJ1.out, Hhtab1.out, ht1, hb1.size⟩
    case round =>
      obtain ⟨i, hi, rfl, hJr, htabr, htr, hsz⟩ := hrel
      obtain ⟨fn, tmps, assign, body, hy, hR⟩ := HhY.out (lc.take i) lc[i] wr hJr (by have := lc[i].2; have := nodup_lt _ _ Hhrun.out.nodup Hhrun.out.lt; simp only [List.length_map] at this; rw [List.length_take]; omega)
      have HhR := Lib.hid hR; clear hR; have HhJr := Lib.hid hJr; clear hJr; have Hhtabr := Lib.hid htabr; clear htabr
      gi_wp2_with fail
      refine HhR.out.mono ?_
      rintro e W2 (⟨rfl, hJ2, hk2, hkc⟩ | ⟨rfl, hJx2⟩)
      case inr =>
        gi_wp2_with fail
        go_end0
        refine ⟨⟨_, rfl⟩, .inr ⟨lc.take i ++ [lc[i]], ?_, hJx2⟩⟩
        rw [← List.take_succ_eq_append_getElem hi, List.map_take]
        exact List.take_prefix _ _
      case inl =>
        have htab2 := Hhtabr.out.below hk2 hB
        have hat := after_calls htab2 hs lc[i].1 lc[i].2
        have hle2 := htab2.le
        have ht2 := hkc.trans htr
        have hsz2 := hk2.size
        have hJend : ∀ W3, Below W2.heap.size W2 W3 → J (lc.take (i + 1)) W3 := by
          intro W3 hb3
          rw [List.take_succ_eq_append_getElem hi]
          exact HhJ.out _ _ _ none hJ2 (grown_below hb3) (fun r e => by cases e)
        have hrun := Hhrun.out
        have hlen : (lc.map (·.1)).length = lc.length := List.length_map _
        have hget : ∀ j (hj : j < lc.length), (lc.map (·.1))[j]'(by omega) = lc[j].1 := fun j hj => List.getElem_map _
        have hidx : ∀ j (hj : j < lc.length), (lc.map (·.1)).idxOf lc[j].1 = j := fun j hj => by rw [← hget j hj]; exact hrun.nodup.idxOf_getElem j (by omega)
        have hm1 := hidx i hi
        have hx0 : lc[0].1 = x0 := by rw [← hget 0 (by omega)]; exact hrun.head
        have hfin : i + 1 = lc.length → ∀ W3, Below W2.heap.size W2 W3 → J lc W3 := by
          intro h9 W3 hb3
          have := hJend W3 hb3
          rwa [List.take_of_length_le (by omega)] at this
        cases haf : aft T lc[i].1 with
        | none =>
          rw [haf] at hat
          have hend : i + 1 = lc.length := by
            rcases Nat.lt_or_ge (i + 1) lc.length with h9 | h9
            · have := hrun.steps i (by omega)
              rw [hget i hi, haf] at this; cases this
            · omega
          have hfin := hfin hend
          change Calls _ _ _ _ fun e w' => e = .returned (.int .i64 (-1)) ∧ _ at hat
          have Hhat := Lib.hid hat; clear hat; have Hhfin := Lib.hid hfin; clear hfin; have Hhtab2 := Lib.hid htab2; clear htab2; have Hhrun := Lib.hid hrun; clear hrun; have Hhget := Lib.hid hget; clear hget; have Hhidx := Lib.hid hidx; clear hidx; have HhJend := Lib.hid hJend; clear hJend
          gi_wp2_with fail
          refine ⟨trivial, (callsIn_wide.2 Hhat.out).mono ?_⟩
          rintro e W3 ⟨rfl, hb3⟩
          gi_wp2_with fail
          refine bodyPost_ret (results_none rfl _ _ _) rfl ?_
          exact ⟨⟨_, rfl⟩, .inl ⟨lc, rfl, Hhfin.out _ hb3⟩⟩
        | some d =>
          rw [haf] at hat
          change Calls _ _ _ _ fun e w' => e = .returned (.int .i64 (d : Int)) ∧ _ at hat
          by_cases hdb : d = x0
          · subst hdb
            have hend : i + 1 = lc.length := by
              rcases Nat.lt_or_ge (i + 1) lc.length with h9 | h9
              · have h8 := hrun.steps i (by omega)
                rw [hget i hi, haf, hget (i + 1) h9] at h8
                have h7 := hidx (i + 1) h9
                rw [← Option.some.inj h8, ← hx0, hidx 0 (by omega)] at h7
                omega
              · omega
            have hfin := hfin hend
            have Hhat := Lib.hid hat; clear hat; have Hhfin := Lib.hid hfin; clear hfin; have Hhtab2 := Lib.hid htab2; clear htab2; have Hhrun := Lib.hid hrun; clear hrun; have Hhget := Lib.hid hget; clear hget; have Hhidx := Lib.hid hidx; clear hidx; have HhJend := Lib.hid hJend; clear hJend
            gi_wp2_with fail
            refine ⟨trivial, (callsIn_wide.2 Hhat.out).mono ?_⟩
            rintro e W3 ⟨rfl, hb3⟩
            gi_wp2_with fail
            refine bodyPost_ret (results_none rfl _ _ _) rfl ?_
            exact ⟨⟨_, rfl⟩, .inl ⟨lc, rfl, Hhfin.out _ hb3⟩⟩
          · have hnext : ∃ h9 : i + 1 < lc.length, d = lc[i + 1].1 := by
              rcases Nat.lt_or_ge (i + 1) lc.length with h9 | h9
              · refine ⟨h9, ?_⟩
                have h8 := hrun.steps i (by omega)
                rw [hget i hi, haf, hget (i + 1) h9] at h8
                exact Option.some.inj h8
              · exfalso
                have h8 := hrun.last
                have h7 : (lc.map (·.1))[(lc.map (·.1)).length - 1]'(by omega) = lc[i].1 := by
                  rw [← hget i hi]
                  congr 1
                  omega
                rw [h7, haf] at h8
                rcases h8 with h8 | h8
                · cases h8
                · exact hdb (Option.some.inj h8)
            obtain ⟨h9, hd⟩ := hnext
            have hm2 := hidx (i + 1) h9
            have hdb' : (d : Int) ≠ (x0 : Int) := by omega
            have hmeas : lc.length - (i + 1) < lc.length - i := by omega
            clear hx0
            have Hhat := Lib.hid hat; clear hat; have Hhfin := Lib.hid hfin; clear hfin; have Hhtab2 := Lib.hid htab2; clear htab2; have Hhrun := Lib.hid hrun; clear hrun; have Hhget := Lib.hid hget; clear hget; have Hhidx := Lib.hid hidx; clear hidx; have HhJend := Lib.hid hJend; clear hJend; have Hhm1 := Lib.hid hm1; clear hm1; have Hhm2 := Lib.hid hm2; clear hm2; have Hhaf := Lib.hid haf; clear haf; have Hhfi := Lib.hid hfi; clear hfi; have Hhd := Lib.hid hd; clear hd
            gi_wp2_with fail
            refine ⟨trivial, (callsIn_wide.2 Hhat.out).mono ?_⟩
            rintro e W3 ⟨rfl, hb3⟩
            have hsz3 := hb3.size
            gi_wp2_with fail
            · rename_i h8
              exfalso
              rcases h8 with h8 | h8
              · omega
              · exact hdb' (eq_of_beq h8)
            refine ⟨⟨i + 1, h9, by rw [Hhd.out], HhJend.out _ hb3, Hhtab2.out.below hb3 hle2, (hb3.cell (p := ⟨Bt, 0, none⟩) (by show Bt < _; omega)).trans ht2, by omega⟩, ?_⟩
            have e : lc.length - (lc.map (·.1)).idxOf d < lc.length - (lc.map (·.1)).idxOf lc[i].1 := by rw [Hhm1.out, Hhd.out, Hhm2.out]; exact hmeas
            exact e

theorem around_stops (n : Nat) (hn : 1 ≤ n) (Bt Bv n₀ B : Nat) (tv : Value) (N : Int) (T : List T3) (v : Int) (hs : Surf N T) (hB : B ≤ n₀) (w : World) (hBt : Bt < w.heap.size) (hBv : Bv < w.heap.size) (hn₀ : n₀ ≤ w.heap.size)
    (ht : w.cell? ⟨Bt, 0, none⟩ = some tv) (hv : w.cell? ⟨Bv, 0, none⟩ = some (.int .i64 v)) (htab : Tab w B tv N T) :
    SeqStopsK Fence.wide n Tryz.prog 124 #[.pointer (some ⟨Bt, 0, none⟩), .pointer (some ⟨Bv, 0, none⟩)] (fun x : Cor T => #[Value.int .i64 (x.1 : Int)]) (KeepB n₀ Bt) (fun ys => ys.map (·.1) = ringAt T N v) (fun pre => pre.map (·.1) <+: ringAt T N v) (3 * T.length + 1) w := fun l J Jx W hW hJ _ hY h0 =>
  around1_in n hn l Bt Bv n₀ B tv N T v hs hB J Jx hY W (Nat.lt_of_lt_of_le hBt hW.size) hJ ((hW.cell (p := ⟨Bt, 0, none⟩) hBt).trans ht) ((hW.cell (p := ⟨Bv, 0, none⟩) hBv).trans hv) (htab.below (hW.mono hn₀) hB) h0
set_option maxRecDepth 20000 in
theorem around_calls (tv : Value) (v : Int) (w : World) (ha : tv.oneCell' = true) : Calls Tryz.prog 82 #[tv, .int .i64 v] w fun e w' =>
    e = .returned (.func (.func 124) #[] #[.pointer (some ⟨w.heap.size, 0, none⟩), .pointer (some ⟨w.heap.size + 1, 0, none⟩)]) ∧
    w' = (w.alloc (.cells #[tv] 46)).alloc (.cells #[.int .i64 v] 3) := by
  go_enter Tryz.func82, Tryz.ntmps82
  go_wp2
  go_ret
  exact ⟨rfl, rfl⟩
theorem around_nil_stops (n : Nat) (hn : 1 ≤ n) (Bt Bv n₀ : Nat) (v : Int) (w : World) (hBt : Bt < w.heap.size) (hBv : Bv < w.heap.size)
    (ht : w.cell? ⟨Bt, 0, none⟩ = some (.pointer none)) (hv : w.cell? ⟨Bv, 0, none⟩ = some (.int .i64 v)) :
    SeqStopsK Fence.wide n Tryz.prog 124 #[.pointer (some ⟨Bt, 0, none⟩), .pointer (some ⟨Bv, 0, none⟩)] (fun x : Cor [] => #[Value.int .i64 (x.1 : Int)]) (KeepB n₀ Bt) (fun ys => ys = []) (fun _ => False) 1 w := fun l J Jx W hW _ _ _ h0 => by
  have ht := (hW.cell (p := ⟨Bt, 0, none⟩) hBt).trans ht
  have hv := (hW.cell (p := ⟨Bv, 0, none⟩) hBv).trans hv
  refine callsIn_of_wp Tryz.func124 rfl trivial ?_ rfl
  simp only [Tryz.ntmps124, List.size_toArray, List.length_cons, List.length_nil, Nat.reduceAdd, Nat.reduceSub, Array.replicate_succ, Array.replicate_zero, List.push_toArray, List.append_toArray, List.nil_append, List.cons_append]
  have hth := there_nil v W
  gi_wp2_with fail
  refine ⟨trivial, (callsIn_wide.2 hth).mono ?_⟩
  rintro e w' ⟨rfl, rfl⟩
  gi_wp2
  refine bodyPost_ret (results_none rfl _ _ _) rfl ?_
  exact ⟨⟨_, rfl⟩, .inl ⟨[], rfl, h0⟩⟩
end Go.Proofs.YtpbdcppaiafbgaaGreat

namespace Go.Mesh
end Go.Mesh
namespace Go.Proofs.YtpbdcppaiafbgaaGreat
open Go Go.RowKit Go.Words Go.Mesh
attribute [local go_sem] Oper.semAt_some

def TabN (w : World) (B : Nat) (tv : Value) (N : Int) (T : List T3) : Prop := Tab w B tv N T ∨ (tv = .pointer none ∧ N = 0 ∧ T = [] ∧ B ≤ w.heap.size)
theorem TabN.below {w w' : World} {B B' : Nat} {tv : Value} {N : Int} {T : List T3} (h : TabN w B tv N T) (hb : Below B' w w') (hB : B ≤ B') : TabN w' B tv N T := by
  rcases h with h | ⟨h1, h2, h3, h4⟩
  · exact .inl (h.below hb hB)
  · exact .inr ⟨h1, h2, h3, Nat.le_trans h4 hb.size⟩
theorem TabN.le {w : World} {B : Nat} {tv : Value} {N : Int} {T : List T3} (h : TabN w B tv N T) : B ≤ w.heap.size := by
  rcases h with h | ⟨_, _, _, h4⟩
  · exact h.le
  · exact h4
theorem TabN.form {w : World} {B : Nat} {tv : Value} {N : Int} {T : List T3} (h : TabN w B tv N T) : ∃ t, tv = .pointer t := by
  rcases h with ⟨g, _, _, _, _, _, rfl, _⟩ | ⟨h1, _⟩
  · exact ⟨_, rfl⟩
  · exact ⟨_, h1⟩
theorem TabN.tab {w : World} {B : Nat} {tv : Value} {N : Int} {T : List T3} (h : TabN w B tv N T) (hT : T ≠ []) : Tab w B tv N T := by
  rcases h with h | ⟨_, _, h3, _⟩
  · exact h
  · exact absurd h3 hT
theorem ringAt_nil (v : Int) : ringAt [] 0 v = [] := by unfold ringAt; rw [if_neg (by omega)]
theorem around_stopsN (n : Nat) (hn : 1 ≤ n) (Bt Bv n₀ B : Nat) (tv : Value) (N : Int) (T : List T3) (v : Int) (hs : Surf N T) (hB : B ≤ n₀) (w : World) (hBt : Bt < w.heap.size) (hBv : Bv < w.heap.size) (hn₀ : n₀ ≤ w.heap.size)
    (ht : w.cell? ⟨Bt, 0, none⟩ = some tv) (hv : w.cell? ⟨Bv, 0, none⟩ = some (.int .i64 v)) (htab : TabN w B tv N T) :
    SeqStopsK Fence.wide n Tryz.prog 124 #[.pointer (some ⟨Bt, 0, none⟩), .pointer (some ⟨Bv, 0, none⟩)] (fun x : Cor T => #[Value.int .i64 (x.1 : Int)]) (KeepB n₀ Bt) (fun ys => ys.map (·.1) = ringAt T N v) (fun pre => pre.map (·.1) <+: ringAt T N v) (3 * T.length + 1) w := by
  rcases htab with htab | ⟨rfl, rfl, rfl, _⟩
  · exact around_stops n hn Bt Bv n₀ B tv N T v hs hB w hBt hBv hn₀ ht hv htab
  · intro l J Jx W hW h1 h2 hY h0
    refine (around_nil_stops n hn Bt Bv n₀ v w hBt hBv ht hv l J Jx W hW h1 h2 hY h0).mono ?_
    rintro e w' ⟨h3, h4⟩
    refine ⟨h3, ?_⟩
    rcases h4 with ⟨xs, rfl, h5⟩ | ⟨pre, h5, _⟩
    · exact .inl ⟨[], by rw [ringAt_nil]; rfl, h5⟩
    · exact h5.elim

set_option maxRecDepth 20000 in
theorem inner_calls {w : World} {B : Nat} {tv : Value} {N : Int} {T : List T3} (h : TabN w B tv N T) (hs : Surf N T) (v : Int) :
    Calls Tryz.prog 28 #[tv, .int .i64 v] w fun e w' => e = .returned (.bool (innerAt T N v)) ∧ Below w.heap.size w w' := by
  rcases h with h | ⟨rfl, rfl, rfl, _⟩
  · have hth := there_calls h hs v
    by_cases hin : 0 ≤ v ∧ v < N
    · rw [decide_eq_true hin] at hth
      have hfi := first_calls h hs v hin
      obtain ⟨b, hb⟩ := hs.corner_some hin.1 hin.2
      have hr : innerAt T N v = !(begins T b).2 := by unfold innerAt; rw [if_pos hin, hb]
      rw [hr]
      have hfi : Calls Tryz.prog 81 #[tv, .int .i64 v] w fun e w' => e = .returned (.tuple #[.int .i64 ((begins T b).1 : Int), .bool (begins T b).2]) ∧ Below w.heap.size w w' := by
        refine hfi.mono ?_
        rintro e w' ⟨⟨b', hb', he⟩, h9⟩
        rw [hb] at hb'
        obtain rfl := Option.some.inj hb'
        exact ⟨he, h9⟩
      generalize (begins T b).1 = x0 at *
      generalize (begins T b).2 = bo at *
      have Hh := Lib.hid h; clear h; have Hhth := Lib.hid hth; clear hth; have Hhfi := Lib.hid hfi; clear hfi; have Hhs := Lib.hid hs; clear hs; have Hhb := Lib.hid hb; clear hb
      go_enter Tryz.func28, Tryz.ntmps28
      go_wp2_with fail
      refine Hhth.out.mono ?_
      rintro e w1 ⟨rfl, rfl⟩
      go_wp2_with fail
      refine Hhfi.out.mono ?_
      rintro e w1 ⟨rfl, hb1⟩
      go_wp2_with fail
      go_ret
      exact ⟨rfl, hb1⟩
    · rw [decide_eq_false hin] at hth
      rw [(hs.ring_none hin).2]
      have Hh := Lib.hid h; clear h; have Hhth := Lib.hid hth; clear hth; have Hhs := Lib.hid hs; clear hs; have Hhin := Lib.hid hin; clear hin
      go_enter Tryz.func28, Tryz.ntmps28
      go_wp2_with fail
      refine Hhth.out.mono ?_
      rintro e w1 ⟨rfl, rfl⟩
      go_wp2_with fail
      go_ret
      exact ⟨rfl, Below.refl _ _⟩
  · have hth := there_nil v w
    rw [show innerAt [] 0 v = false from by unfold innerAt; rw [if_neg (by omega)]]
    have Hhth := Lib.hid hth; clear hth; have Hhs := Lib.hid hs; clear hs
    go_enter Tryz.func28, Tryz.ntmps28
    go_wp2_with fail
    refine Hhth.out.mono ?_
    rintro e w1 ⟨rfl, rfl⟩
    go_wp2_with fail
    go_ret
    exact ⟨rfl, Below.refl _ _⟩
theorem oi_nonneg {o : Option Nat} : (decide (0 ≤ oi o)) = o.isSome := by cases o <;> simp [oi]
end Go.Proofs.YtpbdcppaiafbgaaGreat

namespace Go.Proofs.YtpbdcppaiafbgaaGreat
open Go Go.RowKit Go.Words Go.Mesh
attribute [local go_sem] Oper.semAt_some

theorem infoInt : (Tryz.prog.info? 3).map (fun i => (i.zero, i.size, i.bytes)) = some (some (.int .i64 0), 1, 8) := by kernel_rfl
def nvals (l : List Nat) : List Value := l.map fun (x : Nat) => .int .i64 (x : Int)
theorem boxed_new' {w : World} {n : Nat} (hn : n = w.heap.size) (t : TypeId) (v : Value) : Boxed (w.alloc (.cells #[v] t)) n t v := by subst hn; exact Boxed.new w t v
theorem own_append {W w1 : World} {r B : Nat} {t e : TypeId} {size : Nat} {v v' : Value} {k m : Nat} {xs ys : List Value} {tmp : Obj}
    (hv : Boxed W B t v) (hBr : B < r) (hrow : W.ownsRow r e size v k xs) (hrW : r ≤ W.heap.size) (hown' : w1.ownsRow r e size v' m ys) (hgrow : (W.alloc tmp).grownBy w1 v.ownBlock) :
    Boxed w1 B t v ∧ Boxed (w1.setCell ⟨B, 0, none⟩ v') B t v' ∧ (w1.setCell ⟨B, 0, none⟩ v').ownsRow r e size v' m ys ∧ KeepsOthers W (w1.setCell ⟨B, 0, none⟩ v') ∧ (∀ n₀, n₀ ≤ B → Below n₀ W (w1.setCell ⟨B, 0, none⟩ v')) ∧
    (∀ B' t' u, B' < r → B' ≠ B → Boxed W B' t' u → Boxed (w1.setCell ⟨B, 0, none⟩ v') B' t' u) := by
  have hlt : ∀ B', B' < r → some B' ≠ v.ownBlock := fun B' h e => by have := (hrow.lt B' e.symm).1; omega
  have hlt' : ∀ B', B' < r → some B' ≠ v'.ownBlock := fun B' h e => by have := (hown'.lt B' e.symm).1; omega
  have hv1 : Boxed w1 B t v := (hv.alloc tmp).kept hgrow (hlt B hBr)
  refine ⟨hv1, hv1.set v', hown'.kept (grownBy_setCell' w1 B v') (.inr (hlt' B hBr).symm), ?_, fun n₀ hn => ?_, fun B' t' u h1 h2 h3 => ?_⟩
  · refine ((KeepsOthers.alloc W tmp).trans (KeepsOthers.of_grownBy hgrow fun j o ej hj => ?_)).trans (KeepsOthers.setCell _ _ _)
    rcases (hrow.alloc tmp).2 with ⟨rfl, _⟩ | ⟨g, cap, cur, rfl, _, hgb, _⟩
    · simp [Value.ownBlock] at ej
    · obtain rfl : g = j := by simpa [Value.ownBlock] using ej
      rw [hgb] at hj; cases hj; rfl
  · refine (((Below.refl n₀ W).alloc (by omega) tmp).grown hgrow (by simp; omega) fun j ej => ?_).setCell (p := ⟨B, 0, none⟩) hn v'
    have := (hrow.lt j ej).1
    omega
  · exact ((h3.alloc tmp).kept hgrow (hlt B' h1)).other h2 v'
end Go.Proofs.YtpbdcppaiafbgaaGreat

namespace Go.Mesh
end Go.Mesh
namespace Go.Proofs.YtpbdcppaiafbgaaGreat
open Go Go.RowKit Go.Words Go.Mesh
attribute [local go_sem] Oper.semAt_some

def ivals (l : List Int) : List Value := l.map fun (x : Int) => .int .i64 x
end Go.Proofs.YtpbdcppaiafbgaaGreat
