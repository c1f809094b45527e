/- Walks: the law's table and its example. -/
import Derived.Test.YtpmmjjbllmeneaaDH
import Derived.Test.YtpmmjjbllmeneaaTS
namespace Go.Mesh
def ex39 : List T3 := [(0, 1, 2), (2, 1, 3), (2, 3, 4)]
theorem surf_ex39 : Surf 5 ex39 := surf_check (by decide +kernel)
theorem seeds_ex39 : seedsOf ex39 5 = [0, 2, 1] := by decide +kernel
theorem growE_ex39 : growE ex39 [0, 2] = 0 := by decide +kernel
theorem growL_ex39 : growL ex39 [0, 2] = [0, 0, 1] := by decide +kernel
end Go.Mesh
namespace Go.Proofs.Ytpmmjjbllmeneaa
open Go Go.RowKit Go.Words Go.Mesh

/-- What is looked at. -/
def Small39 (N : Int) (T : List T3) : Prop := T.length ≤ 30 ∧ 0 ≤ N ∧ N ≤ 60
/-- What table hands back. -/
def Tabled39 (w : World) (N : Int) (T : List T3) (e : Ending) (w' : World) : Prop :=
  (∃ pv B', e = .returned pv ∧ ((Small39 N T ∧ Surf N T ∧ Tab w' B' pv N T) ∨ (¬ (Small39 N T ∧ Surf N T) ∧ pv = .pointer none))) ∧ Below w.heap.size w w'
set_option maxRecDepth 20000 in
theorem table39_calls {w : World} {B : Nat} {sv : Value} {N : Int} {T : List T3} (hT : Sl 3 RTri w B sv T) (hB0 : B ≤ w.heap.size) (hN : I64 N) :
    Calls Try.prog 12 #[.agg #[.int .i64 N, sv]] w (Tabled39 w N T) := by
  obtain ⟨A, cap, rfl, hcap⟩ := hT.form
  have hb1 := (Below.refl w.heap.size w).alloc (Nat.le_refl _) (.cells #[.int .i64 N, .slice A T.length cap] 24)
  have hbox := Bk.new w 24 [.int .i64 N, .slice A T.length cap]
  by_cases hsm : Small39 N T
  · obtain ⟨h40, h0, h60⟩ := hsm
    have hnew := new_calls _ N T (w.alloc (.cells #[.int .i64 N, .slice A T.length cap] 24)) (B := B) (by simp; omega) (hT.below keeps_tri (hb1.mono hB0)) hN
    have hbl := hbox.lt
    have HhT := Lib.hid hT; have Hhbox := Lib.hid hbox; have Hhnew := Lib.hid hnew; clear hT hbox hnew
    go_enter Try.func12, Try.ntmps12
    go_wp2_with fail
    refine Hhnew.out.mono ?_
    rintro e w1 ⟨⟨pv, x, y, z, rfl, hor⟩, hb2⟩
    have hb3 := below_call hb1 hb2 hb1.size
    rcases hor with ⟨hs, htab⟩ | ⟨hns, rfl⟩
    · obtain ⟨t, rfl⟩ : ∃ t, pv = .pointer t := by
        obtain ⟨g, _, _, _, _, _, rfl, _⟩ := htab
        exact ⟨_, rfl⟩
      have hle := htab.le
      have htb := htab.below ((Below.refl w1.heap.size w1).alloc (Nat.le_refl _) (.cells #[.int .i64 x, .int .i64 y, .int .i64 z] 50)) hle
      have hb4 := hb3.alloc hb3.size (.cells #[.int .i64 x, .int .i64 y, .int .i64 z] 50)
      have Hhtab := Lib.hid htab; have Hhs := Lib.hid hs; have Hhtb := Lib.hid htb; clear htab hs htb
      go_wp2_with fail
      go_ret
      exact ⟨⟨_, w1.heap.size, rfl, .inl ⟨⟨h40, h0, h60⟩, Hhs.out, Hhtb.out⟩⟩, hb4⟩
    · have hb4 := hb3.alloc hb3.size (.cells #[.int .i64 x, .int .i64 y, .int .i64 z] 50)
      go_wp2_with fail
      go_ret
      exact ⟨⟨_, 0, rfl, .inr ⟨fun h9 => hns h9.2, rfl⟩⟩, hb4⟩
  · have hn : ¬ (Small39 N T ∧ Surf N T) := fun h9 => hsm h9.1
    have h3 : 30 < (T.length : Int) ∨ ((T.length : Int) ≤ 30 ∧ (60 < N ∨ (N ≤ 60 ∧ N < 0))) := by unfold Small39 at hsm; omega
    clear hsm
    have HhT := Lib.hid hT; have Hhbox := Lib.hid hbox; have Hhn := Lib.hid hn; clear hT hbox hn
    rcases h3 with h3 | ⟨h3, h4 | ⟨h4, h5⟩⟩
    · go_enter Try.func12, Try.ntmps12
      go_wp2_with fail
      go_ret
      exact ⟨⟨_, 0, rfl, .inr ⟨Hhn.out, rfl⟩⟩, hb1⟩
    · go_enter Try.func12, Try.ntmps12
      go_wp2_with fail
      go_ret
      exact ⟨⟨_, 0, rfl, .inr ⟨Hhn.out, rfl⟩⟩, hb1⟩
    · have e1 : decide (60 < N) = false := by simp; omega
      have e2 : decide (N < 0) = true := by simp; omega
      go_enter Try.func12, Try.ntmps12
      go_wp2_with fail
      go_ret
      exact ⟨⟨_, 0, rfl, .inr ⟨Hhn.out, rfl⟩⟩, hb1⟩

set_option maxRecDepth 20000 in
set_option maxHeartbeats 1000000 in
theorem awake39_calls (w : World) : Calls Try.prog 11 #[] w fun e w' => e = .returned (.bool true) ∧ Below w.heap.size w w' := by
  go_enter Try.func11, Try.ntmps11
  go_wp2_with fail
  have hsl : Sl 3 RTri (w.alloc (.cells #[.int .i64 0, .int .i64 1, .int .i64 2, .int .i64 2, .int .i64 1, .int .i64 3, .int .i64 2, .int .i64 3, .int .i64 4] 54)) _ (.slice (some ⟨w.heap.size, 0, none⟩) 3 3) ex39 :=
    sl_tris (T := ex39) (Bk.new w 54 (triVals ex39)) (Nat.le_refl _)
  refine (new_calls _ 5 ex39 _ (Nat.le_refl _) hsl (by unfold I64; omega)).mono ?_
  rintro e w1 ⟨⟨pv, x, y, z, rfl, hor⟩, hb2⟩
  have hb3 := below_call ((Below.refl w.heap.size w).alloc (Nat.le_refl _) _) hb2 (by simp)
  rcases hor with ⟨hs, htab⟩ | ⟨hns, -⟩
  case inr => exact absurd surf_ex39 hns
  obtain ⟨t, rfl⟩ : ∃ t, pv = .pointer t := by
    obtain ⟨g, _, _, _, _, _, rfl, _⟩ := htab
    exact ⟨_, rfl⟩
  have hb4 := hb3.alloc hb3.size (.cells #[.int .i64 x, .int .i64 y, .int .i64 z] 50)
  have htb := htab.below ((Below.refl w1.heap.size w1).alloc (Nat.le_refl _) (.cells #[.int .i64 x, .int .i64 y, .int .i64 z] 50)) (Nat.le_refl _)
  clear hsl
  generalize hwa : w1.alloc (.cells #[.int .i64 x, .int .i64 y, .int .i64 z] 50) = wa at *
  have Hhtab := Lib.hid htab; have Hhs := Lib.hid hs; have Hhtb := Lib.hid htb; clear htab hs htb
  go_wp2_with fail
  clear hwa
  have hle := Hhtb.out.le
  have hA := (Below.refl wa.heap.size wa).alloc (Nat.le_refl _) (.cells #[.int .i64 0, .int .i64 2] 3)
  have hzA : (wa.alloc (.cells #[.int .i64 0, .int .i64 2] 3)).heap.size = wa.heap.size + 1 := by simp
  refine (grow_calls (l := [0, 2]) (Hhtb.out.below hA hle) Hhs.out (Nat.le_refl _) (sl_bk (l := [0, 2]) (Bk.new wa 3 (ivals [0, 2]))) (by decide)).mono ?_
  rintro e w2 ⟨⟨r2, rfl, hr2⟩, hb5⟩
  rw [growE_ex39]
  rw [growL_ex39] at hr2
  have hd2 : Below wa.heap.size wa w2 := hA.trans (hb5.mono (by omega))
  have hb6 := below_call hb4 hd2 hb4.size
  have hse := seeds_calls (Hhtb.out.below hd2 hle) Hhs.out 5
  rw [seeds_ex39] at hse
  obtain ⟨A2, cap2, rfl, -⟩ := hr2.form
  clear hA hzA
  have Hhr2 := Lib.hid hr2; have Hhse := Lib.hid hse; clear hr2 hse
  go_wp2_with fail
  refine Hhse.out.mono ?_
  rintro e w3 ⟨⟨r3, rfl, hown3⟩, hb7⟩
  have hd3 : Below w2.heap.size w2 w3 := hb7
  have hb8 := below_call hb6 hb7 hb6.size
  obtain ⟨A3, cap3, rfl, -⟩ := own_form hown3
  have hA := (Below.refl w3.heap.size w3).alloc (Nat.le_refl _) (.cells #[.int .i64 0, .int .i64 2, .int .i64 1] 3)
  have hsA := (sl_nvals (l := [0, 2, 1]) hown3).keep keeps_int hA hA.size
  have hsB := sl_block (l := [0, 2, 1]) (cap := 3) (Bk.new w3 3 (ivals [0, 2, 1])) (Nat.le_refl _)
  have hin := ints_calls hsA hsB (Nat.le_refl _) (by simp)
  rw [show decide ((([0, 2, 1] : List Nat).map fun n : Nat => (n : Int)) = [0, 2, 1]) = true by decide] at hin
  have Hhown3 := Lib.hid hown3; have HhsA := Lib.hid hsA; have HhsB := Lib.hid hsB; have Hhin := Lib.hid hin; clear hown3 hsA hsB hin
  go_wp2_with fail
  refine Hhin.out.mono ?_
  rintro e w4 ⟨rfl, hb9⟩
  have hd4 : Below w2.heap.size w2 w4 := hd3.trans ((hA.trans (hb9.mono (by simp))).mono hd3.size)
  have hb10 := below_call hb6 hd4 hb6.size
  have hA4 := (Below.refl w4.heap.size w4).alloc (Nat.le_refl _) (.cells #[.int .i64 0, .int .i64 0, .int .i64 1] 3)
  have hsA4 := (Hhr2.out.keep keeps_int hd4 hd4.size).keep keeps_int hA4 hA4.size
  have hsB4 := sl_block (l := [0, 0, 1]) (cap := 3) (Bk.new w4 3 (ivals [0, 0, 1])) (Nat.le_refl _)
  have hin4 := ints_calls hsA4 hsB4 (Nat.le_refl _) (by simp)
  rw [show decide (([0, 0, 1] : List Int) = [0, 0, 1]) = true by decide] at hin4
  clear Hhin HhsB HhsA hA
  have HhsA4 := Lib.hid hsA4; have HhsB4 := Lib.hid hsB4; have Hhin4 := Lib.hid hin4; clear hsA4 hsB4 hin4
  go_wp2_with fail
  refine Hhin4.out.mono ?_
  rintro e w5 ⟨rfl, hb11⟩
  have hd5 := hA4.trans (hb11.mono (by simp))
  have hb12 := below_call hb10 hd5 hb10.size
  go_wp2_with fail
  go_ret
  exact ⟨rfl, hb12⟩
end Go.Proofs.Ytpmmjjbllmeneaa
