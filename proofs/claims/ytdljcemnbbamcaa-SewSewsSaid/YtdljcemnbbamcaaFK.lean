/- Walk: sew.Pairs. -/
import Derived.Test.YtdljcemnbbamcaaFH
import Derived.Test.YtdljcemnbbamcaaGB
namespace Go.Mesh
theorem exR_len (r : T3) : (exR r).length = r.2.2.toNat := by unfold exR; rw [List.length_map, List.length_range]
theorem exR_take {r : T3} {i : Nat} (hi : (i : Int) < r.2.2) : (exR r).take (i + 1) = (exR r).take i ++ [(r.1 + (i : Int), r.2.1 - (i : Int))] := by
  rw [List.take_succ_eq_append_getElem (by rw [exR_len]; omega)]
  unfold exR
  rw [List.getElem_map, List.getElem_range]
theorem exR_split {R : List T3} {k i : Nat} {r : T3} (hk : R[k]? = some r) (hi : (i : Int) < r.2.2) : ∃ rest, R.flatMap exR = ((R.take k).flatMap exR ++ (exR r).take i) ++ (r.1 + (i : Int), r.2.1 - (i : Int)) :: rest := by
  obtain ⟨hkl, rfl⟩ := List.getElem?_eq_some_iff.1 hk
  refine ⟨(exR R[k]).drop (i + 1) ++ (R.drop (k + 1)).flatMap exR, ?_⟩
  have e1 : R = R.take k ++ R[k] :: R.drop (k + 1) := by rw [← List.drop_eq_getElem_cons hkl, List.take_append_drop]
  have e2 : exR R[k] = (exR R[k]).take i ++ (R[k].1 + (i : Int), R[k].2.1 - (i : Int)) :: (exR R[k]).drop (i + 1) := by
    conv => lhs; rw [← List.take_append_drop (i + 1) (exR R[k])]
    rw [exR_take hi, List.append_assoc]; rfl
  conv => lhs; rw [e1, List.flatMap_append, List.flatMap_cons, e2]
  simp only [List.append_assoc, List.cons_append]
theorem flP_snoc (P : List (Int × Int)) (p : Int × Int) : flP (P ++ [p]) = flP P ++ [p.1, p.2] := by unfold flP; rw [List.flatMap_append]; rfl
theorem flP_twice {Q rest : List (Int × Int)} {p : Int × Int} (h : p.1 ∈ flP Q ∨ p.2 ∈ flP Q) : ¬ (flP (Q ++ p :: rest)).Nodup := fun hn => by
  have e : flP (Q ++ p :: rest) = flP Q ++ p.1 :: p.2 :: flP rest := by unfold flP; rw [List.flatMap_append]; rfl
  rw [e] at hn
  have := (List.nodup_append.1 hn).2.2
  rcases h with h | h
  · exact this _ h _ (by simp) rfl
  · exact this _ h _ (by simp) rfl
theorem exP_snoc (lo : List Int) (P : List (Int × Int)) (p : Int × Int) : exP lo (P ++ [p]) = exP lo P ++ [(edgeL lo p.1.toNat, edgeL lo p.2.toNat)] := by unfold exP; rw [List.map_append]; rfl
end Go.Mesh
namespace Go.Words
open Go Go.RowKit Go.Mesh
def flat4 (l : List P4) : List Value := l.flatMap fun p => [.int .i64 p.1.1, .int .i64 p.1.2, .int .i64 p.2.1, .int .i64 p.2.2]
theorem flat4_snoc (l : List P4) (p : P4) : flat4 (l ++ [p]) = flat4 l ++ [.int .i64 p.1.1, .int .i64 p.1.2, .int .i64 p.2.1, .int .i64 p.2.2] := by unfold flat4; rw [List.flatMap_append]; rfl
theorem flat4_at (l : List P4) : ∀ (i : Nat) (p : P4), l[i]? = some p → ((flat4 l).drop (i * 4)).take 4 = [.int .i64 p.1.1, .int .i64 p.1.2, .int .i64 p.2.1, .int .i64 p.2.2] := by
  induction l with
  | nil => intro i b h; simp at h
  | cons x l ih =>
    intro i b h
    cases i with
    | zero =>
      have : x = b := by simpa using h
      subst this
      simp [flat4]
    | succ i =>
      have h2 := ih i b (by simpa using h)
      rw [show (i + 1) * 4 = i * 4 + 1 + 1 + 1 + 1 by omega]
      simp only [flat4, List.flatMap_cons, List.cons_append, List.nil_append, List.drop_succ_cons]
      exact h2
theorem flat4_len (l : List P4) : (flat4 l).length = l.length * 4 := by
  induction l with
  | nil => rfl
  | cons x l ih => unfold flat4 at *; rw [List.flatMap_cons, List.length_append, ih]; simp; omega
/-- A row of another type lies in another block. -/
theorem own_ne {w : World} {base n size g : Nat} {e t : TypeId} {v : Value} {xs cs : List Value} (h : w.ownsRow base e size v n xs) (hb : Bk w g t cs) (hne : e ≠ t) : some g ≠ v.ownBlock := by
  rcases h.2 with ⟨rfl, _⟩ | ⟨g', cap, cur, rfl, _, hg, _⟩
  · simp [Value.ownBlock]
  · intro he
    have : g = g' := by simpa [Value.ownBlock] using he
    subst this
    unfold Bk at hb
    rw [hb] at hg
    injection hg with hg
    injection hg with _ h2
    exact hne h2.symm
end Go.Words
namespace Go.Proofs.Ytdljcemnbbamcaa
open Go Go.RowKit Go.Words Go.Mesh

theorem infoPair : (Try.prog.info? 49).map (fun i => (i.zero, i.size, i.bytes)) = some (some (.agg #[.int .i64 0, .int .i64 0, .int .i64 0, .int .i64 0]), 4, 32) := by kernel_rfl
theorem sl_own_4 {w : World} {base : Nat} {v : Value} {l : List P4} (h : w.ownsRow base 49 4 v l.length (flat4 l)) : Sl 4 R4 w w.heap.size v l :=
  Sl.of_own h fun i a hi => flat4_at l i a hi
/-- What sew.Pairs hands back. -/
def PairsEnd (w w' : World) (lo : List Int) (R : List T3) (v : Value) (c : Int) : Prop :=
  (rightB lo = false ∧ c = 1 ∧ v = .slice none 0 0) ∨
  (rightB lo = true ∧ (∃ r ∈ R, ¬ okR lo.length r) ∧ c = 2 ∧ v = .slice none 0 0) ∨
  (rightB lo = true ∧ (∀ r ∈ R, okR lo.length r) ∧ ¬ (flP (R.flatMap exR)).Nodup ∧ c = 9 ∧ v = .slice none 0 0) ∨
  (rightB lo = true ∧ (∀ r ∈ R, okR lo.length r) ∧ (flP (R.flatMap exR)).Nodup ∧ c = 0 ∧ w'.ownsRow w.heap.size 49 4 v (exP lo (R.flatMap exR)).length (flat4 (exP lo (R.flatMap exR))))
set_option maxRecDepth 40000 in
set_option maxHeartbeats 8000000 in
theorem spairs_calls {w : World} {B : Nat} {sv rv : Value} {lo : List Int} {R : List T3} (hL : Sl 1 RInt w B sv lo) (hl : Sl 3 RTri w B rv R) (hB0 : B ≤ w.heap.size) (hlo : lo.length ≤ 1000) (hll : R.length ≤ 1000) (hokR : ∀ r ∈ R, I64 r.1 ∧ I64 r.2.1 ∧ I64 r.2.2) :
    Calls Try.prog 14 #[sv, rv] w fun e w' => (∃ (v : Value) (c : Int), e = .returned (.tuple #[v, .int .i64 c]) ∧ PairsEnd w w' lo R v c) ∧ Below w.heap.size w w' := by
  have hri := right_calls hL hB0 (by omega)
  obtain ⟨A, cap, rfl, hcap⟩ := hL.form
  obtain ⟨A2, cap2, rfl, hcap2⟩ := hl.form
  have HhL := Lib.hid hL; clear hL; have Hhl := Lib.hid hl; clear hl; have Hhri := Lib.hid hri; clear hri; have HhokR := Lib.hid hokR; clear hokR
  go_enter Try.func14, Try.ntmps14
  go_wp2_with fail
  refine Hhri.out.mono ?_
  rintro e w1 ⟨rfl, hb1⟩
  have hz1 := hb1.size
  cases hrb : rightB lo with
  | false =>
    have Hhrb := Lib.hid hrb; clear hrb
    go_wp2_with fail
    go_ret2
    exact ⟨⟨_, _, rfl, .inl ⟨Hhrb.out, rfl, rfl⟩⟩, hb1⟩
  | true =>
    have hnd : lo.Nodup := (of_decide_eq_true hrb).2
    have hn3 : 3 ≤ lo.length := (of_decide_eq_true hrb).1
    have hL1 := HhL.out.below keeps_int (hb1.mono hB0)
    have hl1 := Hhl.out.below keeps_tri (hb1.mono hB0)
    have Hhrb := Lib.hid hrb; clear hrb; have Hhnd := Lib.hid hnd; clear hnd; have HhL1 := Lib.hid hL1; clear hL1; have Hhl1 := Lib.hid hl1; clear hl1
    go_wp2_with fail
    go_loopw [20] (fun i wr => ∃ k : Nat, k ≤ R.length ∧ i = .int .i64 (k : Int) ∧ (∀ r ∈ R.take k, okR lo.length r) ∧ Below w1.heap.size w1 wr) (fun i _ => R.length - (intOf i).toNat)
    case atStart => exact ⟨0, by omega, rfl, fun r hr => by simp at hr, Below.refl _ _⟩
    case round =>
      obtain ⟨k, hk, rfl, hall, hbel⟩ := hrel
      have hz := hbel.size
      by_cases hkl : k < R.length
      · obtain ⟨b, o, rfl, hb, a1, a2, a3⟩ := (Hhl1.out.below keeps_tri (hbel.mono (by omega))).tri_at hkl
        have hmem := List.getElem_mem hkl
        have htk := List.take_succ_eq_append_getElem hkl
        obtain ⟨⟨q1, q2⟩, ⟨q3, q4⟩, q5, q6⟩ := HhokR.out _ hmem
        generalize R[k] = r at *
        obtain ⟨r1, r2, r3⟩ := r
        simp only [] at a1 a2 a3 q1 q2 q3 q4 q5 q6
        have hbw : b < wr.heap.size := by omega
        have hbA := (hb1.trans (hbel.mono hz1)).alloc (by omega) (.cells #[.int .i64 r1, .int .i64 r2, .int .i64 r3] 52)
        have hb2 := hbel.alloc hz (.cells #[.int .i64 r1, .int .i64 r2, .int .i64 r3] 52)
        have hbad : ¬ okR lo.length (r1, r2, r3) → ∃ r ∈ R, ¬ okR lo.length r := fun h9 => ⟨_, hmem, h9⟩
        have hnext : okR lo.length (r1, r2, r3) → ∀ r ∈ R.take (k + 1), okR lo.length r := fun h9 r hr => by
          rw [htk] at hr
          rcases List.mem_append.1 hr with h8 | h8
          · exact hall r h8
          · rw [List.mem_singleton.1 h8]; exact h9
        have Hhall := Lib.hid hall; clear hall; have Hhmem := Lib.hid hmem; clear hmem; have Hhtk := Lib.hid htk; clear htk; have HhbA := Lib.hid hbA; clear hbA; have Hhb2 := Lib.hid hb2; clear hb2; have Hhbad := Lib.hid hbad; clear hbad; have Hhnext := Lib.hid hnext; clear hnext
        by_cases c1 : r3 < 1
        · have hx := Hhbad.out fun h9 => by
            obtain ⟨e1, e2, e3, e4, e5, e6⟩ := h9
            simp only at e1 e2 e3 e4 e5 e6
            omega
          have Hhx := Lib.hid hx; clear hx
          go_wp2_with fail
          all_goals first | (exfalso; omega) | skip
          go_ret2
          exact ⟨⟨_, _, rfl, .inr (.inl ⟨Hhrb.out, Hhx.out, rfl, rfl⟩)⟩, HhbA.out⟩
        · by_cases c2 : (lo.length : Int) < r3
          · have hx := Hhbad.out fun h9 => by
              obtain ⟨e1, e2, e3, e4, e5, e6⟩ := h9
              simp only at e1 e2 e3 e4 e5 e6
              omega
            have Hhx := Lib.hid hx; clear hx
            go_wp2_with fail
            all_goals first | (exfalso; omega) | skip
            go_ret2
            exact ⟨⟨_, _, rfl, .inr (.inl ⟨Hhrb.out, Hhx.out, rfl, rfl⟩)⟩, HhbA.out⟩
          · by_cases c3 : r1 < 0
            · have hx := Hhbad.out fun h9 => by
                obtain ⟨e1, e2, e3, e4, e5, e6⟩ := h9
                simp only at e1 e2 e3 e4 e5 e6
                omega
              have Hhx := Lib.hid hx; clear hx
              go_wp2_with fail
              all_goals first | (exfalso; omega) | skip
              go_ret2
              exact ⟨⟨_, _, rfl, .inr (.inl ⟨Hhrb.out, Hhx.out, rfl, rfl⟩)⟩, HhbA.out⟩
            · by_cases c4 : r2 < 0
              · have hx := Hhbad.out fun h9 => by
                  obtain ⟨e1, e2, e3, e4, e5, e6⟩ := h9
                  simp only at e1 e2 e3 e4 e5 e6
                  omega
                have Hhx := Lib.hid hx; clear hx
                go_wp2_with fail
                all_goals first | (exfalso; omega) | skip
                go_ret2
                exact ⟨⟨_, _, rfl, .inr (.inl ⟨Hhrb.out, Hhx.out, rfl, rfl⟩)⟩, HhbA.out⟩
              · by_cases c5 : (lo.length : Int) ≤ r2
                · have hx := Hhbad.out fun h9 => by
                    obtain ⟨e1, e2, e3, e4, e5, e6⟩ := h9
                    simp only at e1 e2 e3 e4 e5 e6
                    omega
                  have Hhx := Lib.hid hx; clear hx
                  go_wp2_with fail
                  all_goals first | (exfalso; omega) | skip
                  go_ret2
                  exact ⟨⟨_, _, rfl, .inr (.inl ⟨Hhrb.out, Hhx.out, rfl, rfl⟩)⟩, HhbA.out⟩
                · by_cases c6 : r2 - r1 < 2 * r3 - 1
                  · have hx := Hhbad.out fun h9 => by
                      obtain ⟨e1, e2, e3, e4, e5, e6⟩ := h9
                      simp only at e1 e2 e3 e4 e5 e6
                      omega
                    have Hhx := Lib.hid hx; clear hx
                    go_wp2_with fail
                    all_goals first | (exfalso; omega) | skip
                    go_ret2
                    exact ⟨⟨_, _, rfl, .inr (.inl ⟨Hhrb.out, Hhx.out, rfl, rfl⟩)⟩, HhbA.out⟩
                  · have hx := Hhnext.out ⟨by simp only; omega, by simp only; omega, by simp only; omega, by simp only; omega, by simp only; omega, by simp only; omega⟩
                    have Hhx := Lib.hid hx; clear hx
                    go_wp2_with fail
                    all_goals first | (exfalso; omega) | skip
                    exact ⟨⟨k + 1, by omega, by simp, Hhx.out, Hhb2.out⟩, by simp [intOf]; omega⟩
      · obtain rfl : k = R.length := by omega
        rw [List.take_length] at hall
        obtain ⟨w2, hw2⟩ : ∃ w2, w2 = wr := ⟨_, rfl⟩
        subst hw2
        have hbel2 := hb1.trans (hbel.mono hz1)
        have hl2 := Hhl1.out.below keeps_tri (hbel.mono (by omega))
        have hL2 := HhL1.out.below keeps_int (hbel.mono (by omega))
        have hnew := Mp.new (enc := enc1) (ok := I64) (ev := fun _ : Unit => Value.bool true) w2
        have hb3 := (Below.refl w2.heap.size w2).alloc (Nat.le_refl _) (.map #[] 0)
        have hmm := @run_makeMap Try.prog
        have hz2 : B ≤ w2.heap.size := by omega
        have Hhall := Lib.hid hall; clear hall; have Hhl2 := Lib.hid hl2; clear hl2; have HhL2 := Lib.hid hL2; clear hL2; have Hhnew := Lib.hid hnew; clear hnew; have Hhb3 := Lib.hid hb3; clear hb3
        go_wp2_with fail
        clear hmm
        go_loopw [8, 67] (fun ov iv wr => ∃ (k : Nat) (S : List (Int × Unit)), k ≤ R.length ∧ iv = .int .i64 (k : Int) ∧ wr.ownsRow (w2.heap.size + 1) 49 4 ov (exP lo ((R.take k).flatMap exR)).length (flat4 (exP lo ((R.take k).flatMap exR))) ∧ Mp enc1 I64 (fun _ : Unit => Value.bool true) wr w2.heap.size S ∧ (∀ x, (Words.look S x).isSome = true ↔ x ∈ flP ((R.take k).flatMap exR)) ∧ (flP ((R.take k).flatMap exR)).Nodup ∧ (exP lo ((R.take k).flatMap exR)).length ≤ 1000 * k ∧ Below w2.heap.size w2 wr ∧ w2.heap.size + 1 ≤ wr.heap.size) (fun _ iv _ => R.length - (intOf iv).toNat)
        case atStart => exact ⟨0, [], by omega, rfl, World.ownsRow_nil _ _ _ _, Hhnew.out, fun x => by simp [Words.look, flP], List.nodup_nil, Nat.zero_le _, Hhb3.out, by simp⟩
        case round =>
          obtain ⟨k, S, hk, rfl, hown, hmp, hS, hQ, hln, hbr, hzr⟩ := hrel
          obtain ⟨A5, cap5, rfl, hc5⟩ := own_form hown
          by_cases hkl : k < R.length
          · obtain ⟨b, o, rfl, hb, a1, a2, a3⟩ := (Hhl2.out.below keeps_tri (hbr.mono hz2)).tri_at hkl
            have hmem := List.getElem_mem hkl
            have hk' : R[k]? = some R[k] := List.getElem?_eq_getElem hkl
            have htk := List.take_succ_eq_append_getElem hkl
            obtain ⟨e1, e2, e3, e4, e5, e6⟩ := Hhall.out _ hmem
            obtain ⟨w3, hw3⟩ : ∃ w3, w3 = wr := ⟨_, rfl⟩
            subst hw3
            generalize R[k] = r at *
            obtain ⟨r1, r2, r3⟩ := r
            simp only [] at a1 a2 a3 e1 e2 e3 e4 e5 e6
            obtain ⟨rl, rfl⟩ : ∃ m : Nat, r3 = (m : Int) := ⟨r3.toNat, by omega⟩
            obtain ⟨ra, rfl⟩ : ∃ m : Nat, r1 = (m : Int) := ⟨r1.toNat, by omega⟩
            obtain ⟨rb, rfl⟩ : ∃ m : Nat, r2 = (m : Int) := ⟨r2.toNat, by omega⟩
            have hsp := fun (i : Nat) (hi : (i : Int) < (rl : Int)) => exR_split (i := i) hk' hi
            have hst := fun (i : Nat) (hi : (i : Int) < (rl : Int)) => exR_take (r := ((ra : Int), (rb : Int), (rl : Int))) (i := i) hi
            have hfull : (exR ((ra : Int), (rb : Int), (rl : Int))).take rl = exR ((ra : Int), (rb : Int), (rl : Int)) := List.take_of_length_le (by rw [exR_len]; simp)
            have hnx : (R.take (k + 1)).flatMap exR = (R.take k).flatMap exR ++ (exR ((ra : Int), (rb : Int), (rl : Int))).take rl := by
              rw [htk, List.flatMap_append, hfull]; simp
            generalize (R.take k).flatMap exR = Q0 at *
            generalize exR ((ra : Int), (rb : Int), (rl : Int)) = E at *
            have hbw : b < w3.heap.size := by omega
            have hkr := Bk.new w3 52 [.int .i64 (ra : Int), .int .i64 (rb : Int), .int .i64 (rl : Int)]
            have hbA := hbr.alloc (by omega) (.cells #[.int .i64 (ra : Int), .int .i64 (rb : Int), .int .i64 (rl : Int)] 52)
            have hmA := hmp.alloc (.cells #[.int .i64 (ra : Int), .int .i64 (rb : Int), .int .i64 (rl : Int)] 52)
            have hoA := hown.alloc (.cells #[.int .i64 (ra : Int), .int .i64 (rb : Int), .int .i64 (rl : Int)] 52)
            have y0 : Q0 ++ E.take 0 = Q0 := by simp
            have hS0 : ∀ x, (Words.look S x).isSome = true ↔ x ∈ flP (Q0 ++ E.take 0) := by rw [y0]; exact hS
            have hQ0 : (flP (Q0 ++ E.take 0)).Nodup := by rw [y0]; exact hQ
            have hln0 : (exP lo (Q0 ++ E.take 0)).length ≤ 1000 * k + 0 := by rw [y0]; exact hln
            have HhS0 := Lib.hid hS0; clear hS0; have HhQ0 := Lib.hid hQ0; clear hQ0; have Hhown := Lib.hid hown; clear hown; have Hhmp := Lib.hid hmp; clear hmp; have HhS := Lib.hid hS; clear hS; have HhQ := Lib.hid hQ; clear hQ; have Hhln := Lib.hid hln; clear hln; have Hhmem := Lib.hid hmem; clear hmem; have Hhk' := Lib.hid hk'; clear hk'; have Hhtk := Lib.hid htk; clear htk; have Hhsp := Lib.hid hsp; clear hsp; have Hhst := Lib.hid hst; clear hst; have Hhfull := Lib.hid hfull; clear hfull; have Hhnx := Lib.hid hnx; clear hnx; have Hhkr := Lib.hid hkr; clear hkr; have HhbA := Lib.hid hbA; clear hbA; have HhmA := Lib.hid hmA; clear hmA; have HhoA := Lib.hid hoA; clear hoA; have Hy0 := Lib.hid y0; clear y0; have Hhln0 := Lib.hid hln0; clear hln0
            go_wp2_with fail
            go_loopw [8, 73] (fun ov iv wr => ∃ (i : Nat) (S : List (Int × Unit)), i ≤ rl ∧ iv = .int .i64 (i : Int) ∧ wr.ownsRow (w2.heap.size + 1) 49 4 ov (exP lo (Q0 ++ E.take i)).length (flat4 (exP lo (Q0 ++ E.take i))) ∧ Mp enc1 I64 (fun _ : Unit => Value.bool true) wr w2.heap.size S ∧ (∀ x, (Words.look S x).isSome = true ↔ x ∈ flP (Q0 ++ E.take i)) ∧ (flP (Q0 ++ E.take i)).Nodup ∧ (exP lo (Q0 ++ E.take i)).length ≤ 1000 * k + i ∧ Bk wr w3.heap.size 52 [.int .i64 (ra : Int), .int .i64 (rb : Int), .int .i64 (rl : Int)] ∧ Below w2.heap.size w2 wr ∧ w3.heap.size + 1 ≤ wr.heap.size) (fun _ iv _ => rl - (intOf iv).toNat)
            case atStart => exact ⟨0, S, by omega, rfl, by rw [Hy0.out]; exact HhoA.out, HhmA.out, HhS0.out, HhQ0.out, Hhln0.out, Hhkr.out, HhbA.out, by simp⟩
            case round =>
              obtain ⟨i, S2, hi, rfl, hown2, hmp2, hS2, hQ2, hln2, hkr2, hbr2, hzr2⟩ := hrel
              obtain ⟨A6, cap6, rfl, hc6⟩ := own_form hown2
              by_cases hil : i < rl
              · obtain ⟨rest, hsp⟩ := Hhsp.out i (by omega)
                have hst := Hhst.out i (by show (i : Int) < (rl : Int); omega)
                obtain ⟨av, hav⟩ : ∃ av : Nat, (ra : Int) + (i : Int) = av := ⟨ra + i, rfl⟩
                obtain ⟨bv, hbv⟩ : ∃ bv : Nat, (rb : Int) - (i : Int) = bv := ⟨rb - i, by omega⟩
                change E.take (i + 1) = E.take i ++ [((ra : Int) + (i : Int), (rb : Int) - (i : Int))] at hst
                change _ = (Q0 ++ E.take i) ++ ((ra : Int) + (i : Int), (rb : Int) - (i : Int)) :: rest at hsp
                rw [hav, hbv] at hsp hst
                have hq9 : Q0 ++ E.take (i + 1) = (Q0 ++ E.take i) ++ [((av : Int), (bv : Int))] := by rw [hst, List.append_assoc]
                obtain ⟨Q, hQQ⟩ : ∃ Q, Q0 ++ E.take i = Q := ⟨_, rfl⟩
                rw [hQQ] at hown2 hS2 hQ2 hln2 hq9 hsp hc6
                have hal : av < lo.length := by omega
                have hbl : bv < lo.length := by omega
                have hab : av ≠ bv := by omega
                have htw : ((av : Int) ∈ flP Q ∨ (bv : Int) ∈ flP Q) → ¬ (flP (R.flatMap exR)).Nodup := fun h9 => by
                  rw [hsp]; exact flP_twice h9
                rw [← hS2, ← hS2] at htw
                have hbz := hbr2.drew
                have hmz := hmp2.drew
                have k0 : wr.cell? ⟨w3.heap.size, 0, none⟩ = some (.int .i64 (ra : Int)) := hkr2.cell 0
                have k1 : wr.cell? ⟨w3.heap.size, 1, none⟩ = some (.int .i64 (rb : Int)) := hkr2.cell 1
                have k2 : wr.cell? ⟨w3.heap.size, 2, none⟩ = some (.int .i64 (rl : Int)) := hkr2.cell 2
                have hfin := hbel2.trans (hbz.mono hbel2.size)
                rw [hQQ]
                cases hla : Words.look S2 (av : Int) with
                | some u =>
                  have hx := htw (.inl (by rw [hla]; rfl))
                  have hra : (Instr.lookup 78 (.map (some w2.heap.size)) (.int .i64 (av : Int)) false).run Try.prog wr.drew = .ok (.bool true) wr.drew := by
                    have h9 := hmz.look_run keyI Try.underlying78 (zero_bool wr.drew) (x := (av : Int)) (I64.nat (by omega)) false
                    rw [hla] at h9
                    exact h9
                  have Hhown2 := Lib.hid hown2; clear hown2; have Hhmp2 := Lib.hid hmp2; clear hmp2; have HhS2 := Lib.hid hS2; clear hS2; have HhQ2 := Lib.hid hQ2; clear hQ2; have Hhkr2 := Lib.hid hkr2; clear hkr2; have Hhsp := Lib.hid hsp; clear hsp; have Hhst := Lib.hid hst; clear hst; have Hhq9 := Lib.hid hq9; clear hq9; have Hhtw := Lib.hid htw; clear htw; have Hhbz := Lib.hid hbz; clear hbz; have Hhmz := Lib.hid hmz; clear hmz; have Hhla := Lib.hid hla; clear hla; have Hhx := Lib.hid hx; clear hx; have Hhfin := Lib.hid hfin; clear hfin; have HhQQ := Lib.hid hQQ; clear hQQ
                  go_wp2_with fail
                  refine Go.Canon.wp_region_text mixed (by kernel_rfl) ?_
                  go_wp2_with fail
                  refine Go.Canon.chk (by rfl) ?_
                  go_wp2_with fail
                  go_ret2
                  exact ⟨⟨_, _, rfl, .inr (.inr (.inl ⟨Hhrb.out, Hhall.out, Hhx.out, rfl, rfl⟩))⟩, Hhfin.out⟩
                | none =>
                  have hra : (Instr.lookup 78 (.map (some w2.heap.size)) (.int .i64 (av : Int)) false).run Try.prog wr.drew = .ok (.bool false) wr.drew := by
                    have h9 := hmz.look_run keyI Try.underlying78 (zero_bool wr.drew) (x := (av : Int)) (I64.nat (by omega)) false
                    rw [hla] at h9
                    exact h9
                  cases hlb : Words.look S2 (bv : Int) with
                  | some u =>
                    have hx := htw (.inr (by rw [hlb]; rfl))
                    have hrb : (Instr.lookup 78 (.map (some w2.heap.size)) (.int .i64 (bv : Int)) false).run Try.prog wr.drew = .ok (.bool true) wr.drew := by
                      have h9 := hmz.look_run keyI Try.underlying78 (zero_bool wr.drew) (x := (bv : Int)) (I64.nat (by omega)) false
                      rw [hlb] at h9
                      exact h9
                    have Hhown2 := Lib.hid hown2; clear hown2; have Hhmp2 := Lib.hid hmp2; clear hmp2; have HhS2 := Lib.hid hS2; clear hS2; have HhQ2 := Lib.hid hQ2; clear hQ2; have Hhkr2 := Lib.hid hkr2; clear hkr2; have Hhsp := Lib.hid hsp; clear hsp; have Hhst := Lib.hid hst; clear hst; have Hhq9 := Lib.hid hq9; clear hq9; have Hhtw := Lib.hid htw; clear htw; have Hhbz := Lib.hid hbz; clear hbz; have Hhmz := Lib.hid hmz; clear hmz; have Hhla := Lib.hid hla; clear hla; have Hhlb := Lib.hid hlb; clear hlb; have Hhx := Lib.hid hx; clear hx; have Hhfin := Lib.hid hfin; clear hfin; have HhQQ := Lib.hid hQQ; clear hQQ
                    go_wp2_with fail
                    refine Go.Canon.wp_region_text mixed (by kernel_rfl) ?_
                    go_wp2_with fail
                    refine Go.Canon.chk (by rfl) ?_
                    go_wp2_with fail
                    go_ret2
                    exact ⟨⟨_, _, rfl, .inr (.inr (.inl ⟨Hhrb.out, Hhall.out, Hhx.out, rfl, rfl⟩))⟩, Hhfin.out⟩
                  | none =>
                    have hrb : (Instr.lookup 78 (.map (some w2.heap.size)) (.int .i64 (bv : Int)) false).run Try.prog wr.drew = .ok (.bool false) wr.drew := by
                      have h9 := hmz.look_run keyI Try.underlying78 (zero_bool wr.drew) (x := (bv : Int)) (I64.nat (by omega)) false
                      rw [hlb] at h9
                      exact h9
                    have hna : (av : Int) ∉ flP Q := fun h9 => by
                      have := (hS2 (av : Int)).2 h9
                      rw [hla] at this
                      cases this
                    have hnb : (bv : Int) ∉ flP Q := fun h9 => by
                      have := (hS2 (bv : Int)).2 h9
                      rw [hlb] at this
                      cases this
                    have hQ3 : (flP (Q0 ++ E.take (i + 1))).Nodup := by
                      rw [hq9, flP_snoc]
                      refine List.nodup_append.2 ⟨hQ2, by simp; omega, fun x hx y hy => ?_⟩
                      rcases List.mem_cons.1 hy with rfl | hy
                      · exact fun h9 => hna ((show x = (av : Int) from h9) ▸ hx)
                      · rw [List.mem_singleton.1 hy]; exact fun h9 => hnb ((show x = (bv : Int) from h9) ▸ hx)
                    have hS3 : ∀ x, (Words.look (Words.put (Words.put S2 (av : Int) ()) (bv : Int) ()) x).isSome = true ↔ x ∈ flP (Q0 ++ E.take (i + 1)) := fun x => by
                      rw [hq9, flP_snoc, look_put, look_put]
                      simp only [List.mem_append, List.mem_cons, List.not_mem_nil, or_false]
                      by_cases h8 : (bv : Int) = x
                      · rw [if_pos h8]; exact ⟨fun _ => .inr (.inr h8.symm), fun _ => rfl⟩
                      · rw [if_neg h8]
                        by_cases h7 : (av : Int) = x
                        · rw [if_pos h7]; exact ⟨fun _ => .inr (.inl h7.symm), fun _ => rfl⟩
                        · rw [if_neg h7, hS2 x]
                          constructor
                          · exact .inl
                          · rintro (h | h | h)
                            · exact h
                            · exact absurd h.symm h7
                            · exact absurd h.symm h8
                    have hex : exP lo (Q0 ++ E.take (i + 1)) = exP lo Q ++ [(edgeL lo av, edgeL lo bv)] := by rw [hq9, exP_snoc]; rfl
                    have hneb : ∀ (n : Nat) (v : Value) xs, wr.ownsRow (w2.heap.size + 1) 49 4 v n xs → v.ownBlock = none ∨ v.ownBlock ≠ some w2.heap.size := fun n v xs h9 => .inr fun e => by have := (h9.lt _ e).1; omega
                    have hneb := hneb _ _ _ hown2
                    have hown3 := own_below hown2 (Below.refl _ wr).drew (Nat.le_refl _)
                    have hkr3 := hkr2.drew
                    have hml := hmp2.lt
                    obtain ⟨⟨ea1, ea2⟩, hea⟩ : ∃ e, edgeL lo av = e := ⟨_, rfl⟩
                    obtain ⟨⟨eb1, eb2⟩, heb⟩ : ∃ e, edgeL lo bv = e := ⟨_, rfl⟩
                    have hedA := fun wz (hz : Sl 1 RInt wz B (.slice A lo.length cap) lo) (hB : B ≤ wz.heap.size) => sedge_calls hz hB (by omega) av hal
                    have hedB := fun wz (hz : Sl 1 RInt wz B (.slice A lo.length cap) lo) (hB : B ≤ wz.heap.size) => sedge_calls hz hB (by omega) bv hbl
                    change ∀ wz, _ → _ → Calls _ _ _ wz (fun e w' => e = .returned (enc2 (edgeL lo av)) ∧ _) at hedA
                    change ∀ wz, _ → _ → Calls _ _ _ wz (fun e w' => e = .returned (enc2 (edgeL lo bv)) ∧ _) at hedB
                    rw [hea] at hedA
                    rw [heb] at hedB
                    rw [hea, heb] at hex
                    simp only [enc2] at hedA hedB
                    have Hhown2 := Lib.hid hown2; clear hown2; have Hhmp2 := Lib.hid hmp2; clear hmp2; have HhS2 := Lib.hid hS2; clear hS2; have HhQ2 := Lib.hid hQ2; clear hQ2; have Hhkr2 := Lib.hid hkr2; clear hkr2; have Hhsp := Lib.hid hsp; clear hsp; have Hhst := Lib.hid hst; clear hst; have Hhq9 := Lib.hid hq9; clear hq9; have Hhtw := Lib.hid htw; clear htw; have Hhbz := Lib.hid hbz; clear hbz; have Hhmz := Lib.hid hmz; clear hmz; have Hhla := Lib.hid hla; clear hla; have Hhlb := Lib.hid hlb; clear hlb; have Hhfin := Lib.hid hfin; clear hfin; have HhQQ := Lib.hid hQQ; clear hQQ; have Hhna := Lib.hid hna; clear hna; have Hhnb := Lib.hid hnb; clear hnb; have HhQ3 := Lib.hid hQ3; clear hQ3; have HhS3 := Lib.hid hS3; clear hS3; have Hhex := Lib.hid hex; clear hex; have Hhneb := Lib.hid hneb; clear hneb; have Hhown3 := Lib.hid hown3; clear hown3; have Hhkr3 := Lib.hid hkr3; clear hkr3; have HhedA := Lib.hid hedA; clear hedA; have HhedB := Lib.hid hedB; clear hedB; have Hhea := Lib.hid hea; clear hea; have Hheb := Lib.hid heb; clear heb
                    go_wp2_with fail
                    refine Go.Canon.wp_region_text mixed (by kernel_rfl) ?_
                    go_wp2_with fail
                    refine Go.Canon.chk (by rfl) ?_
                    go_wp2_with (first
                      | (at_mapUpdate; refine wpList_put _ rfl _ _ _ 78 rfl 3 4 keyI Try.underlying78 w2.heap.size S2 rfl Hhmz.out (av : Int) rfl (I64.nat (by omega)) () rfl ?_; intro w5 hmp5 hgr5 hsz5; have Hhmp5 := Lib.hid hmp5; clear hmp5; have Hhgr5 := Lib.hid hgr5; clear hgr5; clear hsz5)
                      | (at_mapUpdate; refine wpList_put _ rfl _ _ _ 78 rfl 3 4 keyI Try.underlying78 w2.heap.size (Words.put S2 (av : Int) ()) rfl Hhmp5.out (bv : Int) rfl (I64.nat (by omega)) () rfl ?_; intro w6 hmp6 hgr6 hsz6; have Hhmp6 := Lib.hid hmp6; clear hmp6; have Hhgr6 := Lib.hid hgr6; clear hgr6; clear hsz6))
                    have hb5 := Hhbz.out.grown Hhgr5.out Hhbz.out.size (fun q hq => by cases hq; exact Nat.le_refl _)
                    have hb6 := hb5.grown Hhgr6.out hb5.size (fun q hq => by cases hq; exact Nat.le_refl _)
                    have hz6 : wr.heap.size ≤ w6.heap.size := Nat.le_trans Hhgr5.out.size Hhgr6.out.size
                    have own6 := (Hhown3.out.kept Hhgr5.out Hhneb.out).kept Hhgr6.out Hhneb.out
                    have hne3 : some w3.heap.size ≠ some w2.heap.size := fun h9 => by injection h9 with h9; omega
                    have kr6 := (Hhkr3.out.grown Hhgr5.out hne3).grown Hhgr6.out hne3
                    have hedA6 := HhedA.out w6 (HhL2.out.below keeps_int (hb6.mono hz2)) (by omega)
                    refine hedA6.mono ?_
                    clear hedA6
                    rintro e w7 ⟨rfl, hb7⟩
                    have own7 := own_below own6 hb7 (Nat.le_refl _)
                    have kr7 := kr6.below hb7 kr6.lt
                    have mp7 := Hhmp6.out.below hb7 Hhmp6.out.lt
                    have hb8 := hb6.trans (hb7.mono hb6.size)
                    have hz7 := hb7.size
                    have hedB7 := HhedB.out w7 (HhL2.out.below keeps_int (hb8.mono hz2)) (by omega)
                    clear own6 kr6
                    have Hown7 := Lib.hid own7; clear own7; have Hkr7 := Lib.hid kr7; clear kr7; have Hmp7 := Lib.hid mp7; clear mp7; have HhedB7 := Lib.hid hedB7; clear hedB7
                    go_wp2_with fail
                    refine HhedB7.out.mono ?_
                    rintro e w8 ⟨rfl, hb9⟩
                    have own8 := own_below Hown7.out hb9 (Nat.le_refl _)
                    have kr8 := Hkr7.out.below hb9 Hkr7.out.lt
                    have mp8 := Hmp7.out.below hb9 Hmp7.out.lt
                    have hb10 := hb8.trans (hb9.mono hb8.size)
                    have hz8 := hb9.size
                    have hn3 : some w3.heap.size ≠ (Value.slice A6 (exP lo Q).length cap6).ownBlock := own_ne own8 kr8 (by decide)
                    have hn2 : some w2.heap.size ≠ (Value.slice A6 (exP lo Q).length cap6).ownBlock := fun e => by have := (own8.lt _ e.symm).1; omega
                    have hsz8 : w2.heap.size + 1 ≤ w8.heap.size := by omega
                    have Hown8 := Lib.hid own8; clear own8; have Hkr8 := Lib.hid kr8; clear kr8; have Hmp8 := Lib.hid mp8; clear mp8; have Hhn3 := Lib.hid hn3; clear hn3; have Hhn2 := Lib.hid hn2; clear hn2
                    go_wp2_with (at_builtin; refine append_block _ rfl (.tmp 96) (.tmp 104) 31 rfl (w2.heap.size + 1) infoPair Try.underlying31 rfl (by decide) _ (exP lo Q).length (flat4 (exP lo Q)) rfl (Hown8.out.alloc _) w8.heap.size [.int .i64 ea1, .int .i64 ea2, .int .i64 eb1, .int .i64 eb2] rfl (Bk.new _ _ _) rfl (by simp [Value.oneCell']) (by omega) (by decide) (by simp; omega) ?_; intro v1 w9 hown9 hb11 hgr9 _; have Hhown9 := Lib.hid hown9; clear hown9; have Hhgr9 := Lib.hid hgr9; clear hgr9)
                    have mp9 := (Hmp8.out.alloc (.cells #[.int .i64 ea1, .int .i64 ea2, .int .i64 eb1, .int .i64 eb2] 49)).grown Hhgr9.out Hhn2.out
                    have kr9 := (Hkr8.out.alloc (.cells #[.int .i64 ea1, .int .i64 ea2, .int .i64 eb1, .int .i64 eb2] 49)).grown Hhgr9.out Hhn3.out
                    have hb12 := (hb10.alloc (by omega) (.cells #[.int .i64 ea1, .int .i64 ea2, .int .i64 eb1, .int .i64 eb2] 49)).trans (hb11.mono (by omega))
                    have hz9 := hb11.size
                    simp only [World.size_alloc] at hz9
                    refine ⟨⟨i + 1, _, by omega, by simp, by rw [Hhex.out, flat4_snoc, List.length_append]; exact Hhown9.out, mp9, HhS3.out, HhQ3.out, by rw [Hhex.out, List.length_append]; simp; omega, kr9, hb12, by omega⟩, by simp [intOf]; omega⟩
              · obtain rfl : i = rl := by omega
                have hlf : (exP lo ((R.take (k + 1)).flatMap exR)).length ≤ 1000 * (k + 1) := by rw [Hhnx.out]; omega
                have Hhown2 := Lib.hid hown2; clear hown2; have Hhmp2 := Lib.hid hmp2; clear hmp2; have HhS2 := Lib.hid hS2; clear hS2; have HhQ2 := Lib.hid hQ2; clear hQ2; have Hhkr2 := Lib.hid hkr2; clear hkr2; have Hhlf := Lib.hid hlf; clear hlf
                go_wp2_with fail
                exact ⟨⟨k + 1, S2, by omega, by simp, by rw [Hhnx.out]; exact Hhown2.out, Hhmp2.out, by rw [Hhnx.out]; exact HhS2.out, by rw [Hhnx.out]; exact HhQ2.out, Hhlf.out, hbr2, by omega⟩, by simp [intOf]; omega⟩
          · obtain rfl : k = R.length := by omega
            simp only [List.take_length] at hown hQ ⊢
            have hbf := hbel2.trans (hbr.mono hbel2.size)
            have hown2 := own_base hown (base' := w.heap.size) (by have := hbel2.size; omega)
            have Hhown := Lib.hid hown; clear hown; have Hhmp := Lib.hid hmp; clear hmp; have HhS := Lib.hid hS; clear hS; have HhQ := Lib.hid hQ; clear hQ; have Hhown2 := Lib.hid hown2; clear hown2
            go_wp2_with fail
            go_ret2
            exact ⟨⟨_, _, rfl, .inr (.inr (.inr ⟨Hhrb.out, Hhall.out, HhQ.out, rfl, Hhown2.out⟩))⟩, hbf⟩
end Go.Proofs.Ytdljcemnbbamcaa
