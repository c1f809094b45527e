/- Keys of maps: numbers, pairs and triples of numbers. -/
import Derived.Test.YtdljcemnbbamcaaProg
import Derived.Test.YtdljcemnbbamcaaMap2
import Derived.DeepKeys4
import Derived.MapViews
import Derived.KernelRfl
namespace Go.Words
open Go Go.RowKit Go.Maps
/-- Fits into an int. -/
def I64 (x : Int) : Prop := -9223372036854775808 ≤ x ∧ x ≤ 9223372036854775807
theorem I64.wf {x : Int} (h : I64 x) : (Lit.int .i64 x).wf = true := by
  exact WalkArith.wf_i64 h
theorem I64.nat {n : Nat} (h : n ≤ 9223372036854775807) : I64 (n : Int) := by unfold I64; omega
def enc1 (x : Int) : Value := .int .i64 x
def enc2 (x : Int × Int) : Value := .agg #[.int .i64 x.1, .int .i64 x.2]
def enc3 (x : Int × Int × Int) : Value := .agg #[.int .i64 x.1, .int .i64 x.2.1, .int .i64 x.2.2]
def ok2 (x : Int × Int) : Prop := I64 x.1 ∧ I64 x.2
def ok3 (x : Int × Int × Int) : Prop := I64 x.1 ∧ I64 x.2.1 ∧ I64 x.2.2
theorem key_int {P : Program} {k : TypeId} (hk : P.underlying k = some (.int .i64)) : KeyT P k enc1 I64 :=
  ⟨int_keyed hk, fun _ hx => ⟨_, keyOf_int_mk hk hx.wf⟩, fun x y _ _ h => by unfold enc1 at h; injection h⟩
theorem key_lits_int {P : Program} {d : Nat} {k : TypeId} (hk : P.underlying k = some (.int .i64)) {x : Int} (hx : I64 x) : P.keyLits (d + 1) k [.int .i64 x] = some [.int .i64 x] := by
  unfold Program.keyLits
  rw [hk]
  simp [hx.wf]
/-- An array of so many numbers as a key. -/
theorem key_reads {P : Program} {k e : TypeId} {n : Nat} (hk : P.underlying k = some (.array n e)) (he : P.underlying e = some (.int .i64)) (hc : P.cellsOf k = n) (hce : P.cellsOf e = 1) (hkt : P.keyType k = true) (hsz : 1 ≤ P.types.size)
    (xs : List Int) (hn : xs.length = n) (hx : ∀ x ∈ xs, I64 x) (hf : (Value.agg (xs.map (Value.int .i64)).toArray).formed P k = true) : ∃ kl, keyOf P k (.agg (xs.map (Value.int .i64)).toArray) = some kl := by
  unfold keyOf
  rw [hk]
  simp only [hkt, hf, Bool.and_self, if_true]
  obtain ⟨d, hd⟩ : ∃ d, P.types.size = d + 1 := ⟨P.types.size - 1, by omega⟩
  rw [hd]
  have hm : ∃ ls, P.keyLits (d + 1 + 1) k (Value.agg (xs.map (Value.int .i64)).toArray).cells.toList = some ls := by
    unfold Program.keyLits
    rw [hk]
    have hcells : (Value.agg (xs.map (Value.int .i64)).toArray).cells.toList = xs.map (Value.int .i64) := by simp [Value.cells]
    rw [hcells]
    simp only [List.length_map, hn, hc, if_true, hce, Nat.mul_one]
    have hall : ∀ l : List Nat, (∀ i ∈ l, i < n) → ∃ ls, (l.mapM fun i => P.keyLits (d + 1) e (((xs.map (Value.int .i64)).drop i).take 1)) = some ls := by
      intro l
      induction l with
      | nil => intro _; exact ⟨[], rfl⟩
      | cons i l ih =>
        intro h
        obtain ⟨ls, hls⟩ := ih fun j hj => h j (List.mem_cons_of_mem _ hj)
        have hi : i < xs.length := by rw [hn]; exact h i List.mem_cons_self
        have h1 : ((xs.map (Value.int .i64)).drop i).take 1 = [.int .i64 xs[i]] := by
          rw [List.drop_eq_getElem_cons (by simpa using hi)]; simp
        refine ⟨[.int .i64 xs[i]] :: ls, ?_⟩
        rw [List.mapM_cons, h1, key_lits_int he (hx _ (List.getElem_mem hi)), hls]
        rfl
    obtain ⟨ls, hls⟩ := hall (List.range n) fun i hi => List.mem_range.1 hi
    exact ⟨ls.flatten, by rw [hls]; rfl⟩
  obtain ⟨ls, hls⟩ := hm
  rw [hls]
  exact ⟨_, rfl⟩
end Go.Words
namespace Go.Proofs.Ytdljcemnbbamcaa
open Go Go.RowKit Go.Words Go.Maps

theorem laidOut : laidOutB Try.prog = true := by kernel_rfl
theorem law3 : Keyed Try.prog 56 := Keyed.of_law (deep_law_laid laidOut (m := 2) (by omega) (of_decide_eq_true (by kernel_rfl)) (by kernel_rfl) (by rw [Try.underlying56]))
theorem law2 : Keyed Try.prog 46 := Keyed.of_law (deep_law_laid laidOut (m := 2) (by omega) (of_decide_eq_true (by kernel_rfl)) (by kernel_rfl) (by rw [Try.underlying46]))
theorem lawE : Keyed Try.prog 47 := Keyed.of_law (deep_law_laid laidOut (m := 2) (by omega) (of_decide_eq_true (by kernel_rfl)) (by kernel_rfl) (by rw [Try.underlying47]))
theorem cells3 : Try.prog.cellsOf 56 = 3 := by kernel_rfl
theorem cells2 : Try.prog.cellsOf 46 = 2 := by kernel_rfl
theorem cellsE : Try.prog.cellsOf 47 = 2 := by kernel_rfl
theorem cellsI : Try.prog.cellsOf 3 = 1 := by kernel_rfl
theorem types1 : 1 ≤ Try.prog.types.size := of_decide_eq_true (by kernel_rfl)
theorem keyI : KeyT Try.prog 3 enc1 I64 := key_int Try.underlying3
theorem key3 : KeyT Try.prog 56 enc3 ok3 where
  keyed := law3
  reads := fun x ⟨h1, h2, h3⟩ => key_reads (xs := [x.1, x.2.1, x.2.2]) Try.underlying56 Try.underlying3 cells3 cellsI (by kernel_rfl) types1 rfl (by simp [h1, h2, h3]) (by simp [Value.formed, Try.underlying56, cells3])
  inj := fun x y _ _ h => by
    obtain ⟨x1, x2, x3⟩ := x
    obtain ⟨y1, y2, y3⟩ := y
    unfold enc3 at h
    simp only [Value.agg.injEq] at h
    simpa using h
theorem key2 : KeyT Try.prog 46 enc2 ok2 where
  keyed := law2
  reads := fun x ⟨h1, h2⟩ => key_reads (xs := [x.1, x.2]) Try.underlying46 Try.underlying3 cells2 cellsI (by kernel_rfl) types1 rfl (by simp [h1, h2]) (by simp [Value.formed, Try.underlying46, cells2])
  inj := fun x y _ _ h => by
    obtain ⟨x1, x2⟩ := x
    obtain ⟨y1, y2⟩ := y
    unfold enc2 at h
    simp only [Value.agg.injEq] at h
    simpa using h
theorem keyE : KeyT Try.prog 47 enc2 ok2 where
  keyed := lawE
  reads := fun x ⟨h1, h2⟩ => key_reads (xs := [x.1, x.2]) Try.underlying47 Try.underlying3 cellsE cellsI (by kernel_rfl) types1 rfl (by simp [h1, h2]) (by simp [Value.formed, Try.underlying47, cellsE])
  inj := fun x y _ _ h => by
    obtain ⟨x1, x2⟩ := x
    obtain ⟨y1, y2⟩ := y
    unfold enc2 at h
    simp only [Value.agg.injEq] at h
    simpa using h
theorem zero_row (w : World) : (zeroValue 27).run Try.prog w = .ok (.slice none 0 0) w := by kernel_rfl
theorem zero_bool (w : World) : (zeroValue 4).run Try.prog w = .ok (.bool false) w := by kernel_rfl
theorem zero_int (w : World) : (zeroValue 3).run Try.prog w = .ok (.int .i64 0) w := by kernel_rfl
end Go.Proofs.Ytdljcemnbbamcaa
