/- Walks: the law's table and its example. -/
import Derived.Test.YtckkpmjkajkkmaaGreatTN
import Derived.Test.YtckkpmjkajkkmaaGreatTO
namespace Go.Mesh
def ex0 : List T3 := [(0, 2, 1), (0, 1, 3), (1, 2, 3), (2, 0, 3)]
theorem surf_ex0 : Surf 4 ex0 := surf_check (by decide +kernel)
theorem ring_ex0 : ringAt ex0 4 0 = [0, 3, 10] := by decide +kernel
theorem link_ex0 : linkAt ex0 4 0 = [2, 1, 3] := by decide +kernel
theorem inner_ex0 : innerAt ex0 4 0 = true := by decide +kernel
end Go.Mesh
namespace Go.Proofs.YtckkpmjkajkkmaaGreat
open Go Go.RowKit Go.Words Go.Mesh

/-- What is looked at. -/
def Small (N : Int) (T : List T3) : Prop := T.length ≤ 40 ∧ 0 ≤ N ∧ N ≤ 60
/-- What table hands back. -/
def Tabled (w : World) (N : Int) (T : List T3) (e : Ending) (w' : World) : Prop :=
  (∃ pv B', e = .returned pv ∧ ((Small N T ∧ Surf N T ∧ Tab w' B' pv N T) ∨ (¬ (Small N T ∧ Surf N T) ∧ pv = .pointer none))) ∧ Below w.heap.size w w'
set_option maxRecDepth 20000 in
theorem table_calls {w : World} {B : Nat} {sv : Value} {N : Int} {T : List T3} (hT : Sl 3 RTri w B sv T) (hB0 : B ≤ w.heap.size) (hN : I64 N) :
    Calls Tryz.prog 5 #[.agg #[.int .i64 N, sv]] w (Tabled w N T) := by
  obtain ⟨A, cap, rfl, hcap⟩ := hT.form
  have hb1 := (Below.refl w.heap.size w).alloc (Nat.le_refl _) (.cells #[.int .i64 N, .slice A T.length cap] 24)
  have hbox := Bk.new w 24 [.int .i64 N, .slice A T.length cap]
  by_cases hsm : Small N T
  · obtain ⟨h40, h0, h60⟩ := hsm
    have hnew := new_calls _ N T (w.alloc (.cells #[.int .i64 N, .slice A T.length cap] 24)) (B := B) (by simp; omega) (hT.below keeps_tri (hb1.mono hB0)) hN
    have hbl := hbox.lt
    have HhT := Lib.hid hT; have Hhbox := Lib.hid hbox; have Hhnew := Lib.hid hnew; clear hT hbox hnew
    go_enter Tryz.func5, Tryz.ntmps5
    go_wp2_with fail
    refine Hhnew.out.mono ?_
    rintro e w1 ⟨⟨pv, x, y, z, rfl, hor⟩, hb2⟩
    have hb3 := below_call hb1 hb2 hb1.size
    rcases hor with ⟨hs, htab⟩ | ⟨hns, rfl⟩
    · obtain ⟨t, rfl⟩ : ∃ t, pv = .pointer t := by
        obtain ⟨g, _, _, _, _, _, rfl, _⟩ := htab
        exact ⟨_, rfl⟩
      have hle := htab.le
      have htb := htab.below ((Below.refl w1.heap.size w1).alloc (Nat.le_refl _) (.cells #[.int .i64 x, .int .i64 y, .int .i64 z] 37)) hle
      have hb4 := hb3.alloc hb3.size (.cells #[.int .i64 x, .int .i64 y, .int .i64 z] 37)
      have Hhtab := Lib.hid htab; have Hhs := Lib.hid hs; have Hhtb := Lib.hid htb; clear htab hs htb
      go_wp2_with fail
      go_ret
      exact ⟨⟨_, w1.heap.size, rfl, .inl ⟨⟨h40, h0, h60⟩, Hhs.out, Hhtb.out⟩⟩, hb4⟩
    · have hb4 := hb3.alloc hb3.size (.cells #[.int .i64 x, .int .i64 y, .int .i64 z] 37)
      go_wp2_with fail
      go_ret
      exact ⟨⟨_, 0, rfl, .inr ⟨fun h9 => hns h9.2, rfl⟩⟩, hb4⟩
  · have hn : ¬ (Small N T ∧ Surf N T) := fun h9 => hsm h9.1
    have h3 : 40 < (T.length : Int) ∨ ((T.length : Int) ≤ 40 ∧ (60 < N ∨ (N ≤ 60 ∧ N < 0))) := by unfold Small at hsm; omega
    clear hsm
    have HhT := Lib.hid hT; have Hhbox := Lib.hid hbox; have Hhn := Lib.hid hn; clear hT hbox hn
    rcases h3 with h3 | ⟨h3, h4 | ⟨h4, h5⟩⟩
    · go_enter Tryz.func5, Tryz.ntmps5
      go_wp2_with fail
      go_ret
      exact ⟨⟨_, 0, rfl, .inr ⟨Hhn.out, rfl⟩⟩, hb1⟩
    · go_enter Tryz.func5, Tryz.ntmps5
      go_wp2_with fail
      go_ret
      exact ⟨⟨_, 0, rfl, .inr ⟨Hhn.out, rfl⟩⟩, hb1⟩
    · have e1 : decide (60 < N) = false := by simp; omega
      have e2 : decide (N < 0) = true := by simp; omega
      go_enter Tryz.func5, Tryz.ntmps5
      go_wp2_with fail
      go_ret
      exact ⟨⟨_, 0, rfl, .inr ⟨Hhn.out, rfl⟩⟩, hb1⟩
def triVals : List T3 → List Value
  | [] => []
  | t :: T => .int .i64 t.1 :: .int .i64 t.2.1 :: .int .i64 t.2.2 :: triVals T
theorem triVals_at : ∀ (T : List T3) (i : Nat) (t : T3), T[i]? = some t → i * 3 + 3 ≤ (triVals T).length ∧ ((triVals T).drop (i * 3)).take 3 = [.int .i64 t.1, .int .i64 t.2.1, .int .i64 t.2.2]
  | [], i, t, h => by simp at h
  | x :: T, 0, t, h => by
    have : x = t := by simpa using h
    subst this
    exact ⟨by simp [triVals], by simp [triVals]⟩
  | x :: T, i + 1, t, h => by
    obtain ⟨h1, h2⟩ := triVals_at T i t (by simpa using h)
    refine ⟨by simp only [triVals, List.length_cons]; omega, ?_⟩
    rw [show (i + 1) * 3 = i * 3 + 1 + 1 + 1 by omega]
    simp only [triVals, List.drop_succ_cons]
    exact h2
theorem sl_tris {w : World} {g cap : Nat} {t : TypeId} {T : List T3} (h : Bk w g t (triVals T)) (hc : T.length ≤ cap) : Sl 3 RTri w w.heap.size (.slice (some ⟨g, 0, none⟩) T.length cap) T :=
  Sl.of_block h hc fun i a hi => triVals_at T i a hi
theorem sl_block {w : World} {g cap : Nat} {t : TypeId} {l : List Int} (h : Bk w g t (ivals l)) (hc : l.length ≤ cap) : Sl 1 RInt w w.heap.size (.slice (some ⟨g, 0, none⟩) l.length cap) l :=
  Sl.of_block h hc fun i a hi => by
    have hlt := (List.getElem?_eq_some_iff.1 hi).1
    refine ⟨by unfold ivals; rw [List.length_map]; omega, ?_⟩
    unfold RInt ivals
    rw [Nat.mul_one, List.drop_eq_getElem_cons (by simpa using hlt)]
    simp only [List.take_succ_cons, List.take_zero, List.getElem_map]
    rw [List.getElem?_eq_getElem hlt] at hi
    rw [Option.some.inj hi]
set_option maxRecDepth 20000 in
theorem awake_calls (w : World) : Calls Tryz.prog 4 #[] w fun e w' => e = .returned (.bool true) ∧ Below w.heap.size w w' := by
  go_enter Tryz.func4, Tryz.ntmps4
  go_wp2_with fail
  have hsl : Sl 3 RTri (w.alloc (.cells #[.int .i64 0, .int .i64 2, .int .i64 1, .int .i64 0, .int .i64 1, .int .i64 3, .int .i64 1, .int .i64 2, .int .i64 3, .int .i64 2, .int .i64 0, .int .i64 3] 41)) _ (.slice (some ⟨w.heap.size, 0, none⟩) 4 4) ex0 :=
    sl_tris (T := ex0) (Bk.new w 41 (triVals ex0)) (Nat.le_refl _)
  refine (new_calls _ 4 ex0 _ (Nat.le_refl _) hsl (by unfold I64; omega)).mono ?_
  rintro e w1 ⟨⟨pv, x, y, z, rfl, hor⟩, hb2⟩
  have hb3 := below_call ((Below.refl w.heap.size w).alloc (Nat.le_refl _) _) hb2 (by simp)
  rcases hor with ⟨hs, htab⟩ | ⟨hns, -⟩
  case inr => exact absurd surf_ex0 hns
  obtain ⟨t, rfl⟩ : ∃ t, pv = .pointer t := by
    obtain ⟨g, _, _, _, _, _, rfl, _⟩ := htab
    exact ⟨_, rfl⟩
  have hb4 := hb3.alloc hb3.size (.cells #[.int .i64 x, .int .i64 y, .int .i64 z] 37)
  have htb := TabN.below (.inl htab) ((Below.refl w1.heap.size w1).alloc (Nat.le_refl _) (.cells #[.int .i64 x, .int .i64 y, .int .i64 z] 37)) (Nat.le_refl _)
  clear hsl
  generalize hwa : w1.alloc (.cells #[.int .i64 x, .int .i64 y, .int .i64 z] 37) = wa at *
  have hli := list_calls htb hs 0 20 (by omega) (by omega)
  rw [ring_ex0] at hli
  have Hhtab := Lib.hid htab; have Hhs := Lib.hid hs; have Hhtb := Lib.hid htb; have Hhli := Lib.hid hli; clear htab hs htb hli
  go_wp2_with fail
  refine Hhli.out.mono ?_
  rintro e w2 ⟨⟨r, rfl, hown⟩, hb5⟩
  clear hwa
  have hb6 := below_call hb4 hb5 hb4.size
  have Hhown := Lib.hid hown; clear hown
  go_wp2_with fail
  have hown1 : w2.ownsRow wa.heap.size 3 1 r [0, 3, 10].length (nvals [0, 3, 10]) := Hhown.out
  have hA := (Below.refl w2.heap.size w2).alloc (Nat.le_refl _) (.cells #[.int .i64 0, .int .i64 3, .int .i64 10] 3)
  have hsA : Sl 1 RInt (w2.alloc (.cells #[.int .i64 0, .int .i64 3, .int .i64 10] 3)) (w2.alloc (.cells #[.int .i64 0, .int .i64 3, .int .i64 10] 3)).heap.size r [0, 3, 10] := (sl_nvals hown1).keep keeps_int hA hA.size
  have hsB := sl_block (l := [0, 3, 10]) (cap := 3) (Bk.new w2 3 (ivals [0, 3, 10])) (Nat.le_refl _)
  refine (ints_calls hsA hsB (Nat.le_refl _) (by simp)).mono ?_
  rintro e w3 ⟨rfl, hb7⟩
  rw [show decide (([0, 3, 10] : List Int) = [0, 3, 10]) = true from rfl]
  have hb8 := below_call (hb6.alloc hb6.size (.cells #[.int .i64 0, .int .i64 3, .int .i64 10] 3)) hb7 (by have := hb6.size; simp; omega)
  have hz1 := hb5.size
  have hba : Below wa.heap.size wa w3 := (hb5.alloc hz1 _).trans (hb7.mono (by simp; omega))
  have htb3 := Hhtb.out.below hba Hhtb.out.le
  have hlk := link_calls htb3 Hhs.out 0
  rw [link_ex0] at hlk
  clear hsA hsB hown1 hA
  have Hhtb3 := Lib.hid htb3; have Hhlk := Lib.hid hlk; have Hhba := Lib.hid hba; clear htb3 hlk hba
  go_wp2_with fail
  refine Hhlk.out.mono ?_
  rintro e w4 ⟨⟨r2, rfl, hown2⟩, hb9⟩
  have hb10 := below_call hb8 hb9 hb8.size
  have hz4 := hb9.size
  have hz3 := Hhba.out.size
  have Hhown2 := Lib.hid hown2; clear hown2
  go_wp2_with fail
  have hown1 : w4.ownsRow w3.heap.size 3 1 r2 ([2, 1, 3] : List Int).length (ivals [2, 1, 3]) := Hhown2.out
  have hA := (Below.refl w4.heap.size w4).alloc (Nat.le_refl _) (.cells #[.int .i64 2, .int .i64 1, .int .i64 3] 3)
  have hsA : Sl 1 RInt (w4.alloc (.cells #[.int .i64 2, .int .i64 1, .int .i64 3] 3)) (w4.alloc (.cells #[.int .i64 2, .int .i64 1, .int .i64 3] 3)).heap.size r2 [2, 1, 3] := (sl_ivals hown1).keep keeps_int hA hA.size
  have hsB := sl_block (l := [2, 1, 3]) (cap := 3) (Bk.new w4 3 (ivals [2, 1, 3])) (Nat.le_refl _)
  refine (ints_calls hsA hsB (Nat.le_refl _) (by simp)).mono ?_
  rintro e w5 ⟨rfl, hb11⟩
  rw [show decide (([2, 1, 3] : List Int) = [2, 1, 3]) = true from rfl]
  have hb12 := below_call (hb10.alloc hb10.size (.cells #[.int .i64 2, .int .i64 1, .int .i64 3] 3)) hb11 (by have := hb10.size; simp; omega)
  have hba5 : Below w3.heap.size w3 w5 := (hb9.alloc hz4 _).trans (hb11.mono (by simp; omega))
  have htb5 := Hhtb3.out.below hba5 Hhtb3.out.le
  have hin := inner_calls htb5 Hhs.out 0
  rw [inner_ex0] at hin
  clear hsA hsB hown1 hA
  have Hhtb5 := Lib.hid htb5; have Hhin := Lib.hid hin; have Hhba5 := Lib.hid hba5; clear htb5 hin hba5
  go_wp2_with fail
  refine Hhin.out.mono ?_
  rintro e w6 ⟨rfl, hb13⟩
  have hb14 := below_call hb12 hb13 hb12.size
  go_wp2_with fail
  go_ret
  exact ⟨rfl, hb14⟩
end Go.Proofs.YtckkpmjkajkkmaaGreat
