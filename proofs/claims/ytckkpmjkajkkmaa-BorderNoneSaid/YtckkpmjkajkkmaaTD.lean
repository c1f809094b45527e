/- Walks: ring's before, after. -/
import Derived.Test.YtckkpmjkajkkmaaTC
namespace Go.Mesh
theorem tNext_at {T : List T3} {c : Nat} (h : c < 3 * T.length) : tNext T (c : Int) = (nx c : Int) := by
  unfold tNext
  rw [if_pos ⟨by omega, by omega⟩]; simp
theorem tPrev_at {T : List T3} {c : Nat} (h : c < 3 * T.length) : tPrev T (c : Int) = (pv c : Int) := by
  unfold tPrev
  rw [if_pos ⟨by omega, by omega⟩]; simp
end Go.Mesh
namespace Go.Proofs.Ytckkpmjkajkkmaa
open Go Go.RowKit Go.Words Go.Mesh

set_option maxRecDepth 20000 in
theorem after_calls {w : World} {B : Nat} {pv : Value} {N : Int} {T : List T3} (h : Tab w B pv N T) (hs : Surf N T) (c : Nat) (hc : c < 3 * T.length) :
    Calls Try.prog 80 #[pv, .int .i64 (c : Int)] w fun e w' => e = .returned (.int .i64 (oi (aft T c))) ∧ RowKit.Below w.heap.size w w' := by
  have h0 := h
  have hle := h.le
  have ho := opp_calls h hs (nx c : Int)
  rw [tOpp_at (nx_lt hc)] at ho
  have hn : ∀ wz (d : Int), Tab wz B pv N T → Calls Try.prog 22 #[pv, .int .i64 d] wz fun e w' => e = .returned (.int .i64 (tNext T d)) ∧ w' = wz := by
    rintro wz d ⟨g, vt, gm, vf, m, F, rfl, htab, _⟩
    exact next_calls htab d
  have hn1 := hn w c h
  rw [tNext_at hc] at hn1
  have haft : aft T c = (opp T (nx c)).map nx := rfl
  rw [haft]
  cases hop : opp T (nx c) with
  | none =>
    rw [hop] at ho
    change Calls Try.prog 80 _ _ fun e w' => e = .returned (.int .i64 (-1)) ∧ _
    change Calls _ _ _ _ fun e w' => e = .returned (.int .i64 (-1)) ∧ _ at ho
    have Hh0 := Lib.hid h0; clear h0; have Hhs := Lib.hid hs; clear hs; have Hho := Lib.hid ho; clear ho; have Hhn := Lib.hid hn; clear hn; have Hhn1 := Lib.hid hn1; clear hn1; have Hhop := Lib.hid hop; clear hop; have Hhaft := Lib.hid haft; clear haft; have Hh := Lib.hid h; clear h
    go_enter Try.func80, Try.ntmps80
    go_wp2_with fail
    refine Hhn1.out.mono ?_
    rintro e w1 ⟨rfl, rfl⟩
    go_wp2_with fail
    refine Hho.out.mono ?_
    rintro e w1 ⟨rfl, hb⟩
    go_wp2
    go_ret
    exact ⟨rfl, hb⟩
  | some d =>
    rw [hop] at ho
    have hd := (hs.opp_iff.1 hop).1
    change Calls Try.prog 80 _ _ fun e w' => e = .returned (.int .i64 (nx d : Int)) ∧ _
    change Calls _ _ _ _ fun e w' => e = .returned (.int .i64 (d : Int)) ∧ _ at ho
    have Hh0 := Lib.hid h0; clear h0; have Hhs := Lib.hid hs; clear hs; have Hho := Lib.hid ho; clear ho; have Hhn1 := Lib.hid hn1; clear hn1; have Hhop := Lib.hid hop; clear hop; have Hhaft := Lib.hid haft; clear haft; have Hh := Lib.hid h; clear h
    have Hhn := Lib.hid hn
    clear hn
    go_enter Try.func80, Try.ntmps80
    go_wp2_with fail
    refine Hhn1.out.mono ?_
    rintro e w1 ⟨rfl, rfl⟩
    go_wp2_with fail
    refine Hho.out.mono ?_
    rintro e w1 ⟨rfl, hb⟩
    have hn2 := Hhn.out w1 d (Hh0.out.below hb hle)
    rw [tNext_at hd] at hn2
    have Hhn2 := Lib.hid hn2; clear hn2
    go_wp2_with fail
    refine Hhn2.out.mono ?_
    rintro e w2 ⟨rfl, rfl⟩
    go_wp2
    go_ret
    exact ⟨rfl, hb⟩
set_option maxRecDepth 20000 in
theorem before_calls {w : World} {B : Nat} {tv : Value} {N : Int} {T : List T3} (h : Tab w B tv N T) (hs : Surf N T) (c : Nat) (hc : c < 3 * T.length) :
    Calls Try.prog 83 #[tv, .int .i64 (c : Int)] w fun e w' => e = .returned (.int .i64 (oi (bef T c))) ∧ RowKit.Below w.heap.size w w' := by
  have h0 := h
  have hle := h.le
  have ho := opp_calls h hs (pv c : Int)
  rw [tOpp_at (pv_lt hc)] at ho
  have hn : ∀ wz (d : Int), Tab wz B tv N T → Calls Try.prog 24 #[tv, .int .i64 d] wz fun e w' => e = .returned (.int .i64 (tPrev T d)) ∧ w' = wz := by
    rintro wz d ⟨g, vt, gm, vf, m, F, rfl, htab, _⟩
    exact prev_calls htab d
  have hn1 := hn w c h
  rw [tPrev_at hc] at hn1
  have hbef : bef T c = (opp T (pv c)).map pv := rfl
  rw [hbef]
  cases hop : opp T (pv c) with
  | none =>
    rw [hop] at ho
    change Calls Try.prog 83 _ _ fun e w' => e = .returned (.int .i64 (-1)) ∧ _
    change Calls _ _ _ _ fun e w' => e = .returned (.int .i64 (-1)) ∧ _ at ho
    have Hh0 := Lib.hid h0; clear h0; have Hhs := Lib.hid hs; clear hs; have Hho := Lib.hid ho; clear ho; have Hhn := Lib.hid hn; clear hn; have Hhn1 := Lib.hid hn1; clear hn1; have Hhop := Lib.hid hop; clear hop; have Hhbef := Lib.hid hbef; clear hbef; have Hh := Lib.hid h; clear h
    go_enter Try.func83, Try.ntmps83
    go_wp2_with fail
    refine Hhn1.out.mono ?_
    rintro e w1 ⟨rfl, rfl⟩
    go_wp2_with fail
    refine Hho.out.mono ?_
    rintro e w1 ⟨rfl, hb⟩
    go_wp2
    go_ret
    exact ⟨rfl, hb⟩
  | some d =>
    rw [hop] at ho
    have hd := (hs.opp_iff.1 hop).1
    change Calls Try.prog 83 _ _ fun e w' => e = .returned (.int .i64 (pv d : Int)) ∧ _
    change Calls _ _ _ _ fun e w' => e = .returned (.int .i64 (d : Int)) ∧ _ at ho
    have Hh0 := Lib.hid h0; clear h0; have Hhs := Lib.hid hs; clear hs; have Hho := Lib.hid ho; clear ho; have Hhn1 := Lib.hid hn1; clear hn1; have Hhop := Lib.hid hop; clear hop; have Hhbef := Lib.hid hbef; clear hbef; have Hh := Lib.hid h; clear h
    have Hhn := Lib.hid hn
    clear hn
    go_enter Try.func83, Try.ntmps83
    go_wp2_with fail
    refine Hhn1.out.mono ?_
    rintro e w1 ⟨rfl, rfl⟩
    go_wp2_with fail
    refine Hho.out.mono ?_
    rintro e w1 ⟨rfl, hb⟩
    have hn2 := Hhn.out w1 d (Hh0.out.below hb hle)
    rw [tPrev_at hd] at hn2
    have Hhn2 := Lib.hid hn2; clear hn2
    go_wp2_with fail
    refine Hhn2.out.mono ?_
    rintro e w2 ⟨rfl, rfl⟩
    go_wp2
    go_ret
    exact ⟨rfl, hb⟩
end Go.Proofs.Ytckkpmjkajkkmaa
