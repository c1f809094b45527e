/- Walk: sew.placed: do all edges of pairs stand at places, and each once. Walks: slices.Values, slices.Sorted, slices.Compact at []int; sew.right. -/
import Derived.Test.YtpbdcppaiafbgaaFE
import Derived.Shelf.Slices.In.SortNone
import Derived.Shelf.Slices.CompactI
import Derived.Test.YtpbdcppaiafbgaaTI
namespace Go.Mesh
/-- The edges of pairs, in their order. -/
def edgs (l : List P4) : List (Int × Int) := l.flatMap fun p => [p.1, p.2]
theorem edgs_snoc (l : List P4) (p : P4) : edgs (l ++ [p]) = edgs l ++ [p.1, p.2] := by unfold edgs; rw [List.flatMap_append]; rfl
theorem edgs_take {l : List P4} {k : Nat} {p : P4} (h : l[k]? = some p) : edgs (l.take (k + 1)) = edgs (l.take k) ++ [p.1, p.2] := by
  obtain ⟨hk, rfl⟩ := List.getElem?_eq_some_iff.1 h
  rw [List.take_succ_eq_append_getElem hk, edgs_snoc]
theorem edgs_split {l : List P4} {k : Nat} {p : P4} (h : l[k]? = some p) : ∃ r, edgs l = edgs (l.take k) ++ p.1 :: p.2 :: r := by
  refine ⟨edgs (l.drop (k + 1)), ?_⟩
  have e : l = l.take (k + 1) ++ l.drop (k + 1) := (List.take_append_drop _ _).symm
  conv => lhs; rw [e]
  unfold edgs
  rw [List.flatMap_append]
  have := edgs_take h
  unfold edgs at this
  rw [this, List.append_assoc]
  rfl
def edn (p : P4) (j : Nat) : Int × Int := if j = 0 then p.1 else p.2
theorem edn_cells (p : P4) (j : Nat) (hj : j < 2) : ([Value.int .i64 p.1.1, .int .i64 p.1.2, .int .i64 p.2.1, .int .i64 p.2.2] : List Value)[j * 2]? = some (.int .i64 (edn p j).1) ∧ ([Value.int .i64 p.1.1, .int .i64 p.1.2, .int .i64 p.2.1, .int .i64 p.2.2] : List Value)[j * 2 + 1]? = some (.int .i64 (edn p j).2) := by
  have : j = 0 ∨ j = 1 := by omega
  rcases this with rfl | rfl <;> exact ⟨rfl, rfl⟩
/-- The number that tells whether all edges stand somewhere, and each once. -/
def placedN (has : Int × Int → Bool) (l : List P4) : Int := if (edgs l).all has = true then if (edgs l).Nodup then 0 else 9 else 13
theorem placed_no {has : Int × Int → Bool} {l : List P4} {e : Int × Int} (he : e ∈ edgs l) (h : has e = false) : placedN has l = 13 := by
  unfold placedN
  rw [if_neg]
  intro h2
  rw [List.all_eq_true] at h2
  rw [h2 e he] at h
  cases h
theorem placed_twice {has : Int × Int → Bool} {l : List P4} (h1 : (edgs l).all has = true) (h : ¬ (edgs l).Nodup) : placedN has l = 9 := by unfold placedN; rw [if_pos h1, if_neg h]
theorem placed_ok {has : Int × Int → Bool} {l : List P4} (h1 : (edgs l).all has = true) (h : (edgs l).Nodup) : placedN has l = 0 := by unfold placedN; rw [if_pos h1, if_pos h]
end Go.Mesh
namespace Go.Proofs.Ytpbdcppaiafbgaa
open Go Go.RowKit Go.Words Go.Mesh

set_option maxRecDepth 40000 in
set_option maxHeartbeats 8000000 in
theorem placed_calls {w : World} {B bm : Nat} {pv : Value} {l : List P4} (m : List ((Int × Int) × Int)) (hm : Mp enc2 ok2 enc1 w bm m) (h : Sl 4 R4 w B pv l) (hB0 : B ≤ w.heap.size) (hl : l.length ≤ 1000000) (hok : ∀ e ∈ edgs l, ok2 e) :
    Calls Try.prog 24 #[.map (some bm), pv] w fun e w' => e = .returned (.int .i64 (placedN (fun e => (Words.look m e).isSome) l)) ∧ Below w.heap.size w w' := by
  obtain ⟨A, cap, rfl, hcap⟩ := h.form
  have hml := hm.lt
  have hbw0 := Below.refl w.heap.size w
  have hno : ∀ e ∈ edgs l, Words.look m e = none → placedN (fun e => (Words.look m e).isSome) l = 13 := fun e he h1 => placed_no he (by rw [h1]; rfl)
  have htw : (∀ e ∈ edgs l, (Words.look m e).isSome = true) → ¬ (edgs l).Nodup → placedN (fun e => (Words.look m e).isSome) l = 9 := fun h1 => placed_twice (List.all_eq_true.2 h1)
  have hyes : (∀ e ∈ edgs l, (Words.look m e).isSome = true) → (edgs l).Nodup → placedN (fun e => (Words.look m e).isSome) l = 0 := fun h1 => placed_ok (List.all_eq_true.2 h1)
  generalize placedN (fun e => (Words.look m e).isSome) l = z at *
  have Hhm := Lib.hid hm; clear hm; have Hh := Lib.hid h; clear h; have Hhok := Lib.hid hok; clear hok; have Hhno := Lib.hid hno; clear hno; have Hhtw := Lib.hid htw; clear htw; have Hhyes := Lib.hid hyes; clear hyes
  go_enter Try.func24, Try.ntmps24
  go_wp2_with fail
  go_loopw [18] (fun iv wr => ∃ k : Nat, k ≤ l.length ∧ iv = .int .i64 (k : Int) ∧ (∀ e ∈ edgs (l.take k), (Words.look m e).isSome = true) ∧ Below w.heap.size w wr) (fun iv _ => l.length - (intOf iv).toNat)
  case atStart => exact ⟨0, by omega, rfl, fun e he => by simp [edgs] at he, hbw0⟩
  case round =>
    obtain ⟨k, hk, rfl, hall, hbel⟩ := hrel
    obtain ⟨w1, hw1⟩ : ∃ w1, w1 = wr := ⟨_, rfl⟩
    subst hw1
    by_cases hlt : k < l.length
    · obtain ⟨p, hp⟩ : ∃ p, l[k]? = some p := ⟨_, List.getElem?_eq_getElem hlt⟩
      obtain ⟨b, o, rfl, hb, a1, a2, a3, a4⟩ := (Hh.out.below keeps_4 (hbel.mono hB0)).p4_at hp
      have hmw := Hhm.out.below hbel hml
      have hmlw := hmw.lt
      obtain ⟨rest, hrest⟩ := edgs_split hp
      have hokp : ∀ j, ok2 (edn p j) := fun j => by
        refine Hhok.out _ ?_
        rw [hrest]
        unfold edn
        split <;> simp
      have hmemp : ∀ j, edn p j ∈ edgs l := fun j => by
        rw [hrest]
        unfold edn
        split <;> simp
      have hnext : (∀ j, j < 2 → (Words.look m (edn p j)).isSome = true) → ∀ e ∈ edgs (l.take (k + 1)), (Words.look m e).isSome = true := fun h2 e he => by
        rw [edgs_take hp] at he
        rcases List.mem_append.1 he with h3 | h3
        · exact hall e h3
        · rcases List.mem_cons.1 h3 with rfl | h3
          · exact h2 0 (by omega)
          · rw [List.mem_singleton.1 h3]; exact h2 1 (by omega)
      have hbwb : b < w1.heap.size := by have := hbel.size; omega
      have hzr := hbel.size
      have hpc := edn_cells p
      obtain ⟨⟨x1, x2⟩, x3, x4⟩ := p
      simp only [] at a1 a2 a3 a4
      have hb2 := ((Below.refl w1.heap.size w1).alloc (Nat.le_refl _) (.cells #[.int .i64 x1, .int .i64 x2, .int .i64 x3, .int .i64 x4] 49)).alloc (by simp) (.cells #[.int .i64 x1, .int .i64 x2, .int .i64 x3, .int .i64 x4] 47)
      have hk2 := Bk.new' (n := w1.heap.size + 1) (w := w1.alloc (.cells #[.int .i64 x1, .int .i64 x2, .int .i64 x3, .int .i64 x4] 49)) 47 [.int .i64 x1, .int .i64 x2, .int .i64 x3, .int .i64 x4] (by simp)
      have Hhmw := Lib.hid hmw; clear hmw; have Hhall := Lib.hid hall; clear hall; have Hhokp := Lib.hid hokp; clear hokp; have Hhmemp := Lib.hid hmemp; clear hmemp; have Hhnext := Lib.hid hnext; clear hnext; have Hhrest := Lib.hid hrest; clear hrest; have Hhb2 := Lib.hid hb2; clear hb2; have Hhk2 := Lib.hid hk2; clear hk2; have Hhpc := Lib.hid hpc; clear hpc
      go_wp2_with fail
      go_loopw [28] (fun jv wz => ∃ j : Nat, j ≤ 2 ∧ jv = .int .i64 (j : Int) ∧ (∀ i, i < j → (Words.look m (edn ((x1, x2), x3, x4) i)).isSome = true) ∧ Bk wz (w1.heap.size + 1) 47 [.int .i64 x1, .int .i64 x2, .int .i64 x3, .int .i64 x4] ∧ Below w1.heap.size w1 wz) (fun jv _ => 2 - (intOf jv).toNat)
      case atStart => exact ⟨0, by omega, rfl, fun i hi => by omega, Hhk2.out, Hhb2.out⟩
      case round =>
        obtain ⟨j, hj, rfl, hpre, hkz, hbz⟩ := hrel
        have hbz2 := hbel.trans (hbz.mono hzr)
        by_cases hj2 : j < 2
        · have cj := Hhpc.out j hj2
          have c1 := (hkz.cell (j * 2)).trans cj.1
          have c2 := (hkz.cell (j * 2 + 1)).trans cj.2
          have hoke := Hhokp.out j
          have hmem := Hhmemp.out j
          have hstep : (Words.look m (edn ((x1, x2), x3, x4) j)).isSome = true → ∀ i, i < j + 1 → (Words.look m (edn ((x1, x2), x3, x4) i)).isSome = true := fun h2 i hi => by
            by_cases hij : i = j
            · rw [hij]; exact h2
            · exact hpre i (by omega)
          generalize edn ((x1, x2), x3, x4) j = e at *
          obtain ⟨e1, e2⟩ := e
          simp only [] at c1 c2
          have hmz := (Hhmw.out.below hbz hmlw).alloc (.cells #[.int .i64 e1, .int .i64 e2] 47)
          have hbl := hkz.lt
          have hkz2 := hkz.alloc (.cells #[.int .i64 e1, .int .i64 e2] 47)
          have hbz3 := hbz.alloc (by have := hbz.size; omega) (.cells #[.int .i64 e1, .int .i64 e2] 47)
          have hbz4 := hbz2.alloc (by have := hbz2.size; omega) (.cells #[.int .i64 e1, .int .i64 e2] 47)
          cases hlk : Words.look m (e1, e2) with
          | none =>
            have hz := Hhno.out _ hmem hlk
            have Hhpre := Lib.hid hpre; clear hpre; have Hhkz := Lib.hid hkz; clear hkz; have Hhoke := Lib.hid hoke; clear hoke; have Hhmem := Lib.hid hmem; clear hmem; have Hhstep := Lib.hid hstep; clear hstep; have Hhmz := Lib.hid hmz; clear hmz; have Hhlk := Lib.hid hlk; clear hlk; have Hhz := Lib.hid hz; clear hz; have Hhkz2 := Lib.hid hkz2; clear hkz2; have Hhbz3 := Lib.hid hbz3; clear hbz3; have Hhbz4 := Lib.hid hbz4; clear hbz4
            go_wp2_with (at_lookup; refine wpList_look_ok _ rfl _ _ 67 rfl 47 3 keyE Try.underlying67 zero_int bm m rfl Hhmz.out (e1, e2) rfl Hhoke.out ?_; rw [Hhlk.out, show (((none : Option Int).map enc1).getD (.int .i64 0)) = .int .i64 0 from rfl, show (none : Option Int).isSome = false from rfl])
            go_ret
            exact ⟨ret_int Hhz.out.symm, Hhbz4.out⟩
          | some pl =>
            have hst := hstep (by rw [hlk]; rfl)
            have Hhpre := Lib.hid hpre; clear hpre; have Hhkz := Lib.hid hkz; clear hkz; have Hhoke := Lib.hid hoke; clear hoke; have Hhmem := Lib.hid hmem; clear hmem; have Hhstep := Lib.hid hstep; clear hstep; have Hhmz := Lib.hid hmz; clear hmz; have Hhlk := Lib.hid hlk; clear hlk; have Hhkz2 := Lib.hid hkz2; clear hkz2; have Hhbz3 := Lib.hid hbz3; clear hbz3; have Hhbz4 := Lib.hid hbz4; clear hbz4; have Hhst := Lib.hid hst; clear hst
            go_wp2_with (at_lookup; refine wpList_look_ok _ rfl _ _ 67 rfl 47 3 keyE Try.underlying67 zero_int bm m rfl Hhmz.out (e1, e2) rfl Hhoke.out ?_; rw [Hhlk.out, show (((some pl : Option Int).map enc1).getD (.int .i64 0)) = .int .i64 pl from rfl, show (some pl : Option Int).isSome = true from rfl])
            exact ⟨⟨j + 1, by omega, by simp, Hhst.out, Hhkz2.out, Hhbz3.out⟩, by simp [intOf]; omega⟩
        · obtain rfl : j = 2 := by omega
          have hn := Hhnext.out hpre
          have Hhpre := Lib.hid hpre; clear hpre; have Hhkz := Lib.hid hkz; clear hkz; have Hhn := Lib.hid hn; clear hn
          go_wp2_with fail
          exact ⟨⟨k + 1, by omega, by simp, Hhn.out, hbz2⟩, by simp [intOf]; omega⟩
    · obtain rfl : k = l.length := by omega
      rw [List.take_length] at hall
      have htw := Hhtw.out hall
      have hyes := Hhyes.out hall
      have hnew := Mp.new (enc := enc2) (ok := ok2) (ev := fun _ : Unit => Value.bool true) w1
      have hbn := hbel.alloc hbel.size (.map #[] 0)
      have hzr := hbel.size
      have hmm := @run_makeMap Try.prog
      have Hhall := Lib.hid hall; clear hall; have Hhtw := Lib.hid htw; clear htw; have Hhyes := Lib.hid hyes; clear hyes; have Hhnew := Lib.hid hnew; clear hnew
      go_wp2_with fail
      clear hmm
      go_loopw [45] (fun iv wr => ∃ (k : Nat) (S : List ((Int × Int) × Unit)), k ≤ l.length ∧ iv = .int .i64 (k : Int) ∧ (edgs (l.take k)).Nodup ∧ Mp enc2 ok2 (fun _ : Unit => Value.bool true) wr w1.heap.size S ∧ (∀ e, (Words.look S e).isSome = true ↔ e ∈ edgs (l.take k)) ∧ Below w.heap.size w wr) (fun iv _ => l.length - (intOf iv).toNat)
      case atStart => exact ⟨0, [], by omega, rfl, List.nodup_nil, Hhnew.out, fun e => by simp [edgs, Words.look], hbn⟩
      case round =>
        obtain ⟨k, S, hk, rfl, hnd, hmp, hS, hbr⟩ := hrel
        obtain ⟨w2, hw2⟩ : ∃ w2, w2 = wr := ⟨_, rfl⟩
        subst hw2
        have hml2 := hmp.lt
        by_cases hlt : k < l.length
        · obtain ⟨p, hp⟩ : ∃ p, l[k]? = some p := ⟨_, List.getElem?_eq_getElem hlt⟩
          obtain ⟨b, o, rfl, hb, a1, a2, a3, a4⟩ := (Hh.out.below keeps_4 (hbr.mono hB0)).p4_at hp
          obtain ⟨rest, hrest⟩ := edgs_split hp
          have hokp : ∀ j, ok2 (edn p j) := fun j => by
            refine Hhok.out _ ?_
            rw [hrest]
            unfold edn
            split <;> simp
          have hbad : ∀ j, j < 2 → edn p j ∈ edgs (l.take k) ++ [p.1, p.2].take j → ¬ (edgs l).Nodup := fun j hj he hn => by
            rw [hrest] at hn
            have hj2 : j = 0 ∨ j = 1 := by omega
            rcases hj2 with rfl | rfl
            · simp only [List.take_zero, List.append_nil] at he
              exact (List.nodup_append.1 hn).2.2 _ he _ (by simp [edn]) rfl
            · simp only [List.take_succ_cons, List.take_zero] at he
              rcases List.mem_append.1 he with h1 | h1
              · exact (List.nodup_append.1 hn).2.2 _ h1 _ (by simp [edn]) rfl
              · have := (List.nodup_cons.1 (List.nodup_append.1 hn).2.1).1
                rw [List.mem_singleton.1 h1 |>.symm] at this
                exact this (by simp [edn])
          have hpre2 : ∀ j, j < 2 → edgs (l.take k) ++ [p.1, p.2].take (j + 1) = (edgs (l.take k) ++ [p.1, p.2].take j) ++ [edn p j] := fun j hj => by
            have hj2 : j = 0 ∨ j = 1 := by omega
            rcases hj2 with rfl | rfl <;> simp [edn]
          have htk : edgs (l.take (k + 1)) = edgs (l.take k) ++ [p.1, p.2].take 2 := edgs_take hp
          have hbwb : b < w2.heap.size := by have := hbr.size; omega
          have hzr2 := hbr.size
          have hpc := edn_cells p
          generalize hE : edgs (l.take k) = E at *
          have hE0 : E ++ [p.1, p.2].take 0 = E := by simp
          obtain ⟨⟨x1, x2⟩, x3, x4⟩ := p
          simp only [] at a1 a2 a3 a4
          have hb2 := (hbr.alloc hbr.size (.cells #[.int .i64 x1, .int .i64 x2, .int .i64 x3, .int .i64 x4] 49)).alloc (by simp; omega) (.cells #[.int .i64 x1, .int .i64 x2, .int .i64 x3, .int .i64 x4] 47)
          have hk2 := Bk.new' (n := w2.heap.size + 1) (w := w2.alloc (.cells #[.int .i64 x1, .int .i64 x2, .int .i64 x3, .int .i64 x4] 49)) 47 [.int .i64 x1, .int .i64 x2, .int .i64 x3, .int .i64 x4] (by simp)
          have hm2 := (hmp.alloc (.cells #[.int .i64 x1, .int .i64 x2, .int .i64 x3, .int .i64 x4] 49)).alloc (.cells #[.int .i64 x1, .int .i64 x2, .int .i64 x3, .int .i64 x4] 47)
          rw [← hE0] at hnd hS
          have Hhmp := Lib.hid hmp; clear hmp; have Hhnd := Lib.hid hnd; clear hnd; have HhS := Lib.hid hS; clear hS; have Hhokp := Lib.hid hokp; clear hokp; have Hhbad := Lib.hid hbad; clear hbad; have Hhpre2 := Lib.hid hpre2; clear hpre2; have Hhtk := Lib.hid htk; clear htk; have Hhrest := Lib.hid hrest; clear hrest; have Hhb2 := Lib.hid hb2; clear hb2; have Hhk2 := Lib.hid hk2; clear hk2; have Hhpc := Lib.hid hpc; clear hpc; have Hhm2 := Lib.hid hm2; clear hm2; have HhE := Lib.hid hE; clear hE; have HhE0 := Lib.hid hE0; clear hE0
          go_wp2_with fail
          go_loopw [55] (fun jv wz => ∃ (j : Nat) (S : List ((Int × Int) × Unit)), j ≤ 2 ∧ jv = .int .i64 (j : Int) ∧ (E ++ [(x1, x2), (x3, x4)].take j).Nodup ∧ Mp enc2 ok2 (fun _ : Unit => Value.bool true) wz w1.heap.size S ∧ (∀ e, (Words.look S e).isSome = true ↔ e ∈ E ++ [(x1, x2), (x3, x4)].take j) ∧ Bk wz (w2.heap.size + 1) 47 [.int .i64 x1, .int .i64 x2, .int .i64 x3, .int .i64 x4] ∧ Below w.heap.size w wz) (fun jv _ => 2 - (intOf jv).toNat)
          case atStart => exact ⟨0, S, by omega, rfl, Hhnd.out, Hhm2.out, HhS.out, Hhk2.out, Hhb2.out⟩
          case round =>
            obtain ⟨j, S3, hj, rfl, hnd3, hm3, hS3, hkz, hbz⟩ := hrel
            by_cases hj2 : j < 2
            · have cj := Hhpc.out j hj2
              have c1 := (hkz.cell (j * 2)).trans cj.1
              have c2 := (hkz.cell (j * 2 + 1)).trans cj.2
              have hoke := Hhokp.out j
              have hbd := Hhbad.out j hj2
              have hp3 := Hhpre2.out j hj2
              rw [← hS3] at hbd
              generalize edn ((x1, x2), x3, x4) j = e at *
              generalize E ++ [(x1, x2), (x3, x4)].take j = E3 at *
              obtain ⟨e1, e2⟩ := e
              simp only [] at c1 c2
              have hmz := hm3.alloc (.cells #[.int .i64 e1, .int .i64 e2] 47)
              have hbl := hkz.lt
              have hkz2 := hkz.alloc (.cells #[.int .i64 e1, .int .i64 e2] 47)
              have hbz4 := hbz.alloc hbz.size (.cells #[.int .i64 e1, .int .i64 e2] 47)
              cases hlk : Words.look S3 (e1, e2) with
              | some u =>
                have hz := Hhtw.out (hbd (by rw [hlk]; rfl))
                have Hhnd3 := Lib.hid hnd3; clear hnd3; have Hhm3 := Lib.hid hm3; clear hm3; have HhS3 := Lib.hid hS3; clear hS3; have Hhkz := Lib.hid hkz; clear hkz; have Hhoke := Lib.hid hoke; clear hoke; have Hhbd := Lib.hid hbd; clear hbd; have Hhp3 := Lib.hid hp3; clear hp3; have Hhmz := Lib.hid hmz; clear hmz; have Hhlk := Lib.hid hlk; clear hlk; have Hhz := Lib.hid hz; clear hz; have Hhkz2 := Lib.hid hkz2; clear hkz2; have Hhbz4 := Lib.hid hbz4; clear hbz4
                go_wp2_with (at_lookup; refine wpList_look _ rfl _ _ 89 rfl 47 4 keyE Try.underlying89 zero_bool w1.heap.size S3 rfl Hhmz.out (e1, e2) rfl Hhoke.out ?_; rw [Hhlk.out, show (((some u : Option Unit).map (fun _ : Unit => Value.bool true)).getD (.bool false)) = .bool true from rfl])
                go_ret
                exact ⟨ret_int Hhz.out.symm, Hhbz4.out⟩
              | none =>
                have hno : (e1, e2) ∉ E3 := fun h9 => by
                  have := (hS3 (e1, e2)).2 h9
                  rw [hlk] at this
                  cases this
                have hnd4 : (E3 ++ [(e1, e2)]).Nodup := List.nodup_append.2 ⟨hnd3, by simp, fun a ha b hb => by
                  rw [List.mem_singleton.1 hb]; exact fun h9 => hno (h9 ▸ ha)⟩
                have hS4 : ∀ e, (Words.look (Words.put S3 (e1, e2) ()) e).isSome = true ↔ e ∈ E3 ++ [(e1, e2)] := fun e => by
                  rw [look_put]
                  by_cases h9 : (e1, e2) = e
                  · rw [if_pos h9]; simp [h9]
                  · rw [if_neg h9, hS3 e, List.mem_append, List.mem_singleton]
                    exact ⟨.inl, fun h8 => h8.resolve_right fun h7 => h9 h7.symm⟩
                rw [← hp3] at hnd4 hS4
                have hne : some (w2.heap.size + 1) ≠ some w1.heap.size := fun h9 => by injection h9; omega
                have Hhnd3 := Lib.hid hnd3; clear hnd3; have Hhm3 := Lib.hid hm3; clear hm3; have HhS3 := Lib.hid hS3; clear hS3; have Hhkz := Lib.hid hkz; clear hkz; have Hhoke := Lib.hid hoke; clear hoke; have Hhbd := Lib.hid hbd; clear hbd; have Hhp3 := Lib.hid hp3; clear hp3; have Hhmz := Lib.hid hmz; clear hmz; have Hhlk := Lib.hid hlk; clear hlk; have Hhkz2 := Lib.hid hkz2; clear hkz2; have Hhbz4 := Lib.hid hbz4; clear hbz4; have Hhno := Lib.hid hno; clear hno; have Hhnd4 := Lib.hid hnd4; clear hnd4; have HhS4 := Lib.hid hS4; clear hS4
                go_wp2_with (first
                  | (at_lookup; refine wpList_look _ rfl _ _ 89 rfl 47 4 keyE Try.underlying89 zero_bool w1.heap.size S3 rfl Hhmz.out (e1, e2) rfl Hhoke.out ?_; rw [Hhlk.out, show (((none : Option Unit).map (fun _ : Unit => Value.bool true)).getD (.bool false)) = .bool false from rfl])
                  | (at_mapUpdate; refine wpList_put _ rfl _ _ _ 89 rfl 47 4 keyE Try.underlying89 w1.heap.size S3 rfl Hhmz.out (e1, e2) rfl Hhoke.out () rfl ?_; intro w4 hmp4 hgr4 hsz4; have Hhmp4 := Lib.hid hmp4; clear hmp4; have Hhgr4 := Lib.hid hgr4; clear hgr4; clear hsz4))
                exact ⟨⟨j + 1, _, by omega, by simp, Hhnd4.out, Hhmp4.out, HhS4.out, Hhkz2.out.grown Hhgr4.out hne, Hhbz4.out.grown Hhgr4.out Hhbz4.out.size (fun q hq => by cases hq; exact hzr)⟩, by simp [intOf]; omega⟩
            · obtain rfl : j = 2 := by omega
              have hnd4 := hnd3
              have hS4 := hS3
              have ht := Hhtk.out
              rw [← ht] at hnd4 hS4
              have Hhnd3 := Lib.hid hnd3; clear hnd3; have Hhm3 := Lib.hid hm3; clear hm3; have HhS3 := Lib.hid hS3; clear hS3; have Hhkz := Lib.hid hkz; clear hkz; have Hhnd4 := Lib.hid hnd4; clear hnd4; have HhS4 := Lib.hid hS4; clear hS4; have Hht := Lib.hid ht; clear ht
              go_wp2_with fail
              exact ⟨⟨k + 1, S3, by omega, by simp, Hhnd4.out, Hhm3.out, HhS4.out, hbz⟩, by simp [intOf]; omega⟩
        · obtain rfl : k = l.length := by omega
          rw [List.take_length] at hnd
          have hz := Hhyes.out hnd
          have Hhnd := Lib.hid hnd; clear hnd; have Hhmp := Lib.hid hmp; clear hmp; have HhS := Lib.hid hS; clear hS; have Hhz := Lib.hid hz; clear hz
          go_wp2_with fail
          go_ret
          exact ⟨ret_int Hhz.out.symm, hbr⟩
end Go.Proofs.Ytpbdcppaiafbgaa

namespace Go.Words
open Go Go.RowKit Go.Mesh Go.Sort Go.Shelf
theorem grown_put {α : Type} [Inhabited α] (enc : α → Value) {w : World} {g off n : Nat} (d : Array α) : w.grownBy (putRow enc (Sort.ahead w n) g off d) (some g) := by
  refine ⟨rfl, rfl, rfl, by simp, fun k hk hne => ?_⟩
  have : g ≠ k := fun e => hne (by rw [e])
  simp [putRow, mapBlock, Sort.ahead, Array.getElem?_modify, this]
theorem own_sortedI {w : World} {base g n cap m : Nat} {e : TypeId} {xs : List Value} {os : Array Obj} (F : Array Int) (h : w.ownsRow base e 1 (.slice (some ⟨g, 0, none⟩) n cap) n xs) (hF : F.size = n) :
    (grow (putRow (Value.int .i64) (Sort.ahead w m) g 0 F) os).ownsRow base e 1 (.slice (some ⟨g, 0, none⟩) n cap) n (F.toList.map (Value.int .i64)) := by
  rcases h.2 with ⟨h0, _⟩ | ⟨g', cap', cur, hv, hb, hg, hn, hc, hcs, _⟩
  · cases h0
  injection hv with hv _ hc'
  injection hv with hv
  injection hv with hg'
  subst hg'; subst hc'
  refine ⟨by simpa using hF, .inr ⟨g, cap, _, rfl, hb, heap_sorted (Value.int .i64) F hg, hn, hc, by simp [putCells, hcs], ?_⟩⟩
  apply List.ext_getElem?
  intro j
  by_cases hj : j < n
  · rw [List.getElem?_take_of_lt (by omega), Array.getElem?_toList]
    simp [putCells, hF, hj, show j < cur.size by omega, getElem!_pos]
  · rw [List.getElem?_take_eq_none (by omega), List.getElem?_eq_none (by simp; omega)]
/-- No two neighbours alike: nothing is left out. -/
theorem compact_len (zs : List Int) : (Lib.compact zs).length = zs.length ↔ ∀ j, j + 1 < zs.length → zs[j]? ≠ zs[j + 1]? := by
  unfold Lib.compact Lib.compactUpTo
  rw [List.length_map]
  conv => lhs; rhs; rw [← List.length_range (n := zs.length)]
  rw [List.length_filter_eq_length_iff]
  constructor
  · intro h j hj he
    have := h (j + 1) (List.mem_range.2 hj)
    unfold Lib.keeps at this
    simp only [decide_eq_true_eq] at this
    rcases this with h1 | h1
    · omega
    · apply h1
      rw [List.getElem?_eq_getElem hj, List.getElem?_eq_getElem (by omega)] at he
      have he := Option.some.inj he
      rw [getElem!_pos _ _ (by simpa using hj), getElem!_pos _ _ (by simp; omega)]
      simp [he]
  · intro h k hk
    have hk := List.mem_range.1 hk
    unfold Lib.keeps
    simp only [decide_eq_true_eq]
    by_cases h0 : k = 0
    · exact .inl h0
    · right
      intro he
      refine h (k - 1) (by omega) ?_
      rw [show k - 1 + 1 = k by omega, List.getElem?_eq_getElem hk, List.getElem?_eq_getElem (by omega)]
      rw [getElem!_pos _ _ (by simpa using hk), getElem!_pos _ _ (by simp; omega)] at he
      simp at he
      rw [he]
theorem compact_le (zs : List Int) : (Lib.compact zs).length ≤ zs.length := by
  unfold Lib.compact Lib.compactUpTo
  rw [List.length_map]
  exact Nat.le_trans (List.length_filter_le _ _) (by rw [List.length_range]; exact Nat.le_refl _)
/-- A list put in order has no two neighbours alike just if it has nothing twice. -/
theorem sorted_nodup (lo : List Int) : (∀ j, j + 1 < (lo.mergeSort fun x y => decide (x ≤ y)).length → (lo.mergeSort fun x y => decide (x ≤ y))[j]? ≠ (lo.mergeSort fun x y => decide (x ≤ y))[j + 1]?) ↔ lo.Nodup := by
  have hp : (lo.mergeSort fun x y => decide (x ≤ y)).Perm lo := List.mergeSort_perm lo _
  have hs : (lo.mergeSort fun x y => decide (x ≤ y)).Pairwise (fun x y => x ≤ y) := by
    have := List.pairwise_mergeSort (le := fun x y : Int => decide (x ≤ y)) (fun a b c h1 h2 => by simp at *; omega) (fun a b => by simp; omega) lo
    exact this.imp fun h => by simpa using h
  rw [← hp.nodup_iff]
  generalize (lo.mergeSort fun x y => decide (x ≤ y)) = zs at *
  constructor
  · intro h
    rw [List.nodup_iff_pairwise_ne, List.pairwise_iff_getElem]
    rw [List.pairwise_iff_getElem] at hs
    intro i j hi hj hij he
    have h1 : zs[i] ≤ zs[i + 1] := hs i (i + 1) hi (by omega) (by omega)
    have h2 : zs[i + 1] ≤ zs[j] := by
      by_cases hij2 : i + 1 = j
      · subst hij2; exact Int.le_refl _
      · exact hs (i + 1) j (by omega) hj (by omega)
    refine h i (by omega) ?_
    rw [List.getElem?_eq_getElem hi, List.getElem?_eq_getElem (by omega)]
    congr 1
    omega
  · intro h j hj he
    rw [List.getElem?_eq_getElem hj, List.getElem?_eq_getElem (by omega)] at he
    have := (List.getElem_inj (h₀ := by omega) (h₁ := hj) h).1 (Option.some.inj he)
    omega
end Go.Words
namespace Go.Proofs.Ytpbdcppaiafbgaa
open Go Go.RowKit Go.Words Go.Mesh
attribute [local go_sem] Oper.semAt_some

set_option maxRecDepth 20000 in
theorem values_calls (A : Option Addr) (n cap : Nat) (w : World) : Calls Try.prog 37 #[.slice A n cap] w fun e w' =>
    e = .returned (.func (.func 50) #[] #[.pointer (some ⟨w.heap.size, 0, none⟩)]) ∧ w' = w.alloc (.cells #[.slice A n cap] 31) := by
  go_enter Try.func37, Try.ntmps37
  go_wp2
  go_ret
  exact ⟨rfl, rfl⟩
set_option maxRecDepth 20000 in
set_option maxHeartbeats 1000000 in
theorem values1_in (n : Nat) (hn : 1 ≤ n) (l Bt n₀ B : Nat) (sv : Value) (lo : List Int) (hB : B ≤ n₀) (J Jx : List Int → World → Prop)
    (hY : ∀ pre (x : Int) W, J pre W → pre.length < lo.length → YieldAt Fence.wide (n - 1) Try.prog l #[.int .i64 x] W fun e W' =>
      (e = .returned (.bool true) ∧ J (pre ++ [x]) W' ∧ KeepB n₀ Bt W W') ∨ (e = .returned (.bool false) ∧ Jx (pre ++ [x]) W'))
    (W : World) (hv : W.cell? ⟨Bt, 0, none⟩ = some sv) (hsl : Sl 1 RInt W B sv lo) (hlo : lo.length ≤ 1000000) (h0 : J [] W) :
    CallsIn Fence.wide n Try.prog 50 #[.func (.yield l) #[] #[], .pointer (some ⟨Bt, 0, none⟩)] W fun e W' => (∃ v, e = .returned v) ∧
      ((∃ ys : List Int, ys = lo ∧ J ys W') ∨ (∃ pre : List Int, True ∧ Jx pre W')) := by
  obtain ⟨A, cap, rfl, hcap⟩ := hsl.form
  refine callsIn_of_wp Try.func50 rfl trivial ?_ rfl
  simp only [Try.ntmps50, List.size_toArray, List.length_cons, List.length_nil, Nat.reduceAdd, Nat.reduceSub, Array.replicate_succ, Array.replicate_zero, List.push_toArray, List.append_toArray, List.nil_append, List.cons_append]
  have Hhsl := Lib.hid hsl; clear hsl; have HhY := Lib.hid hY; clear hY
  gi_wp2_with fail
  gi_loopw [7] (fun iv wr => ∃ i : Nat, i ≤ lo.length ∧ iv = .int .i64 (i : Int) ∧ J (lo.take i) wr ∧ Sl 1 RInt wr B (.slice A lo.length cap) lo) (fun iv _ => lo.length - (intOf iv).toNat)
  case atStart => exact ⟨0, by omega, rfl, h0, Hhsl.out⟩
  case round =>
    obtain ⟨i, hi, rfl, hJr, hslr⟩ := hrel
    by_cases hlt : i < lo.length
    · obtain ⟨b, o, rfl, hb, c0⟩ := hslr.int_at hlt
      obtain ⟨fn, tmps, assign, body, hy, hR⟩ := HhY.out (lo.take i) lo[i] wr hJr (by rw [List.length_take]; omega)
      have htake := List.take_succ_eq_append_getElem hlt
      generalize lo[i] = x at *
      have HhJr := Lib.hid hJr; clear hJr; have Hhslr := Lib.hid hslr; clear hslr; have HhR := Lib.hid hR; clear hR; have Hhtake := Lib.hid htake; clear htake
      gi_wp2_with fail
      refine HhR.out.mono ?_
      rintro e W2 (⟨rfl, hJ2, hk2, hkc⟩ | ⟨rfl, hJx2⟩)
      · have hsl2 := Hhslr.out.below keeps_int (hk2.mono hB)
        rw [← Hhtake.out] at hJ2
        have HhJ2 := Lib.hid hJ2; clear hJ2; have Hhsl2 := Lib.hid hsl2; clear hsl2
        gi_wp2_with fail
        exact ⟨⟨i + 1, by omega, by simp, HhJ2.out, Hhsl2.out⟩, by simp [intOf]; omega⟩
      · gi_wp2_with fail
        refine bodyPost_ret (results_none rfl _ _ _) rfl ?_
        exact ⟨⟨_, rfl⟩, .inr ⟨_, trivial, hJx2⟩⟩
    · obtain rfl : i = lo.length := by omega
      rw [List.take_length] at hJr
      have HhJr := Lib.hid hJr; clear hJr; have Hhslr := Lib.hid hslr; clear hslr
      gi_wp2_with fail
      go_end0
      exact ⟨⟨_, rfl⟩, .inl ⟨lo, rfl, HhJr.out⟩⟩
theorem values_stops (n : Nat) (hn : 1 ≤ n) (Bt n₀ B : Nat) (sv : Value) (lo : List Int) (hB : B ≤ n₀) (w : World) (hBt : Bt < w.heap.size) (hn₀ : n₀ ≤ w.heap.size)
    (hv : w.cell? ⟨Bt, 0, none⟩ = some sv) (hsl : Sl 1 RInt w B sv lo) (hlo : lo.length ≤ 1000000) :
    SeqStopsK Fence.wide n Try.prog 50 #[.pointer (some ⟨Bt, 0, none⟩)] (fun x : Int => #[Value.int .i64 x]) (KeepB n₀ Bt) (fun ys => ys = lo) (fun _ => True) lo.length w := fun l J Jx W hW _ _ hY h0 =>
  values1_in n hn l Bt n₀ B sv lo hB J Jx (fun pre x W => hY pre x W) W ((hW.cell (p := ⟨Bt, 0, none⟩) hBt).trans hv) (hsl.below keeps_int (hW.mono (Nat.le_trans hB hn₀))) hlo h0
def zvals (l : List Int) : List Value := l.map (Value.int .i64)
set_option maxRecDepth 20000 in
set_option maxHeartbeats 1000000 in
theorem appseqV_calls {w : World} {B Bt : Nat} {sv : Value} {lo : List Int} (h : Sl 1 RInt w B sv lo) (hB0 : B ≤ w.heap.size) (hlo : lo.length ≤ 1000000) (hBt : Bt < w.heap.size) (hv : w.cell? ⟨Bt, 0, none⟩ = some sv) :
    Calls Try.prog 33 #[.slice none 0 0, .func (.func 50) #[] #[.pointer (some ⟨Bt, 0, none⟩)]] w fun e w' => (∃ r, e = .returned r ∧ w'.ownsRow w.heap.size 3 1 r lo.length (zvals lo)) ∧ Below w.heap.size w w' := by
  refine (callsIn_wide (n := 6)).1 ?_
  refine callsIn_of_wp_marks Try.func33 rfl trivial ?_ rfl
  simp only [Try.ntmps33, List.size_toArray, List.length_cons, List.length_nil, Nat.reduceAdd, Nat.reduceSub, Array.replicate_succ, Array.replicate_zero, List.push_toArray, List.append_toArray, List.nil_append, List.cons_append]
  gi_wp2_with fail
  obtain ⟨gb, hgb⟩ : ∃ gb, gb = w.heap.size := ⟨_, rfl⟩
  rw [← hgb]
  obtain ⟨w0, hw0⟩ : ∃ w0, w0 = w.alloc (.cells #[.slice none 0 0] 31) := ⟨_, rfl⟩
  have hB1 : Below w.heap.size w w0 := by
    rw [hw0]; exact (Below.refl _ w).alloc (Nat.le_refl _) _
  have b1 : Boxed w0 gb 31 (.slice none 0 0) := by rw [hw0]; exact boxed_new' hgb _ _
  have hv0 : w0.cell? ⟨Bt, 0, none⟩ = some sv := (hB1.cell (p := ⟨Bt, 0, none⟩) hBt).trans hv
  have hsz : w0.heap.size = gb + 1 := by rw [hw0]; simp [hgb]
  rw [← hw0]
  clear hw0
  have hlt : gb ≤ w0.heap.size ∧ Bt < w0.heap.size ∧ B ≤ gb ∧ gb + 1 ≤ w0.heap.size ∧ Bt < gb := by omega
  clear hsz
  have hsl0 := h.below keeps_int (hB1.mono hB0)
  have Hhgb := Lib.hid hgb; clear hgb; have Hh := Lib.hid h; clear h
  refine wpIn_rangeFunc_ownF rfl (by decide) (gf := 50) (lb := #[.pointer (some ⟨Bt, 0, none⟩)]) rfl trivial (enters_of Try.func50 (by kernel_rfl) rfl)
    (values_stops 5 (by decide) Bt gb B sv lo hlt.2.2.1 w0 hlt.2.1 hlt.1 hv0 hsl0 hlo) keepB_t (keepB_b hlt.1 hlt.2.1) (Below.refl _ _) (fun _ => rfl)
    (fun pre W => (∃ vv, Boxed W gb 31 vv ∧ W.ownsRow (gb + 1) 3 1 vv pre.length (zvals pre) ∧ True) ∧ Below gb w W ∧ gb + 1 ≤ W.heap.size)
    (fun _ _ _ => False)
    ?hI ?hIx ?h0
    (fun x => { tmps := #[.slice none 0 0, .func (.func 50) #[] #[.pointer (some ⟨Bt, 0, none⟩)], .pointer (some ⟨gb, 0, none⟩), undef, .slice none 0 0, .int .i64 x, .func (.func 50) #[] #[.pointer (some ⟨Bt, 0, none⟩)], .int .i64 x, undef, undef, undef, undef, undef], defers := [] }) ?assign ?body ?done ?stop
  case hI =>
    refine OwnFrom.and (Own.from (holdsRow_own (gb + 1) gb _ _ 1 (fun pre : List Int => pre.length) (fun pre : List Int => zvals pre) (fun _ _ => True)) _) (OwnFrom.and (ownFrom_below (by rw [Hhgb.out]; exact Nat.le_refl _) hlt.1) ?_)
    exact fun _ A C row hs hg _ => Nat.le_trans hs hg.size
  case hIx => exact fun _ _ _ _ _ h _ _ => h
  case h0 =>
    exact ⟨⟨_, b1, World.ownsRow_nil _ _ _ _, trivial⟩, by rw [Hhgb.out]; exact hB1, hlt.2.2.2.1⟩
  case assign =>
    intro l x W K hK
    gi_wp2
    exact hK
  case body =>
    rintro l pre x W ⟨⟨vv, hv, hrow, -⟩, hbl, hge⟩ hN
    obtain ⟨i0, hi, hz0, hz1, hz2⟩ := info_parts infoInt
    have hc := hv.cell
    have hml : pre.length + 1 ≤ maxLen := by unfold maxLen; omega
    gi_wp2_with (gi_at_builtin; refine wpListIn_append_own _ rfl _ _ 31 rfl (gb + 1) 3 i0 (.int .i64 0) 1 8 Try.underlying31 hi hz0 hz1 hz2 rfl (by decide) _ _ _ rfl (hrow.alloc _) ⟨W.heap.size, 0, none⟩ 1 1 [.int .i64 x] rfl rfl (cell_one_new _ _ _) (by simp [Value.oneCell']) (by omega) (by omega) (by have := hbl.size; simp; omega) ?_; intro v' w1 hown' hgrow _; obtain ⟨g', cap', rfl⟩ := ownsRow_succ hown'; obtain ⟨hv1, hv2, hr2, hk2, hbb, hoth⟩ := own_append hv (by omega) hrow hge hown' hgrow; have hc1 := hv1.cell; have hf1 := hv1.frozen)
    have hr3 : (w1.setCell ⟨gb, 0, none⟩ (.slice (some ⟨g', 0, none⟩) (pre.length + 1) cap')).ownsRow (gb + 1) 3 1 (.slice (some ⟨g', 0, none⟩) (pre.length + 1) cap') (pre ++ [x]).length (zvals (pre ++ [x])) := by simpa [zvals] using hr2
    have hkc := hbb gb (Nat.le_refl _)
    exact ⟨hk2, ⟨hkc, hkc.cell (p := ⟨Bt, 0, none⟩) hlt.2.2.2.2⟩, ⟨⟨_, hv2, hr3, trivial⟩, hbl.trans hkc, Nat.le_trans hge hk2.size⟩⟩
  case done =>
    rintro D ys W hD hys ⟨⟨vv, hv, hrow, -⟩, hbl, hge⟩ hK
    have hc := hv.cell
    gi_wp2
    refine ⟨by simp, .inl ⟨_, _, rfl, run_takeDeferred hK, ?_⟩⟩
    refine ⟨_, results_tmp rfl _ _ _, ⟨_, rfl, ?_⟩, ?_⟩
    · rw [← hys, ← Hhgb.out]
      exact ownsRow_putObj (own_base hrow (by omega)) _ hK rfl
    · rw [← Hhgb.out]
      exact hbl.trans (belowK_b (w := w0) hlt.1 W D _ _ hD hK rfl rfl)
  case stop =>
    rintro D c pre W hD hpre h hK
    exact h.elim
set_option maxRecDepth 20000 in
theorem collectV_calls {w : World} {B Bt : Nat} {sv : Value} {lo : List Int} (h : Sl 1 RInt w B sv lo) (hB0 : B ≤ w.heap.size) (hlo : lo.length ≤ 1000000) (hBt : Bt < w.heap.size) (hv : w.cell? ⟨Bt, 0, none⟩ = some sv) :
    Calls Try.prog 18 #[.func (.func 50) #[] #[.pointer (some ⟨Bt, 0, none⟩)]] w fun e w' => (∃ r, e = .returned r ∧ w'.ownsRow w.heap.size 3 1 r lo.length (zvals lo)) ∧ Below w.heap.size w w' := by
  have hap := appseqV_calls h hB0 hlo hBt hv
  have Hhap := Lib.hid hap; clear hap; have Hh := Lib.hid h; clear h
  go_enter Try.func18, Try.ntmps18
  go_wp2_with fail
  refine Hhap.out.mono ?_
  rintro e w1 ⟨⟨r, rfl, hown⟩, hb⟩
  have Hhown := Lib.hid hown; clear hown
  go_wp2_with fail
  go_ret
  exact ⟨⟨_, rfl, Hhown.out⟩, hb⟩
theorem sortI_calls {w : World} {base : Nat} {r : Value} {lo : List Int} (h : w.ownsRow base 3 1 r lo.length (zvals lo)) (hlo : lo.length ≤ 1000000) :
    Calls Try.prog 49 #[r] w fun e w' => e = .returned (.tuple #[]) ∧ w'.ownsRow base 3 1 r lo.length (zvals (lo.mergeSort fun x y => decide (x ≤ y))) ∧ Below base w w' := by
  obtain ⟨A, cap, rfl, hcap⟩ := own_form h
  by_cases h0 : lo.length = 0
  · have hs : lo = [] := List.length_eq_zero_iff.1 h0
    subst hs
    have hcon := Any.slices_Sort_int_none Try.sortInts A cap w
    change Calls Try.prog 49 _ _ _ at hcon
    refine hcon.mono ?_
    rintro e w' ⟨rfl, rfl⟩
    exact ⟨rfl, by simpa using h, Below.refl _ _⟩
  · obtain ⟨g, rfl⟩ : ∃ g, A = some ⟨g, 0, none⟩ := by
      obtain ⟨m, hm⟩ : ∃ m, lo.length = m + 1 := ⟨lo.length - 1, by omega⟩
      rw [hm] at h
      obtain ⟨g', c', h8⟩ := ownsRow_succ h
      injection h8 with h8
      exact ⟨_, h8⟩
    have hg := h.lt g rfl
    have hH : Sort.Holds (Value.int .i64) w g 0 lo.toArray := by
      intro j hj
      have hj : j < lo.length := by simpa using hj
      rw [Nat.zero_add]
      refine ⟨?_, h.frozenAt j⟩
      rw [h.cellAt j (by simpa using hj)]
      unfold zvals
      rw [List.getElem?_map, List.getElem?_eq_getElem hj, Option.map_some, getElem!_pos _ _ (by simpa using hj)]
      simp
    have hcon := Any.slices_Sort_int Try.sortInts g 0 cap lo w hH hg.2 (by omega)
    change Calls Try.prog 49 _ _ _ at hcon
    refine hcon.mono ?_
    rintro e w' ⟨rfl, n, os, rfl⟩
    refine ⟨rfl, ?_, (Below.refl _ _).grown (grown_sorted (Value.int .i64) _) (Nat.le_trans hg.1 (Nat.le_of_lt hg.2)) (fun q hq => by cases hq; exact hg.1)⟩
    have := own_sortedI (m := n) (os := os) (lo.mergeSort fun x y => decide (x ≤ y)).toArray h (by simp)
    simpa [zvals] using this
set_option maxRecDepth 20000 in
set_option maxHeartbeats 1000000 in
theorem sorted_calls {w : World} {B Bt : Nat} {sv : Value} {lo : List Int} (h : Sl 1 RInt w B sv lo) (hB0 : B ≤ w.heap.size) (hlo : lo.length ≤ 1000000) (hBt : Bt < w.heap.size) (hv : w.cell? ⟨Bt, 0, none⟩ = some sv) :
    Calls Try.prog 36 #[.func (.func 50) #[] #[.pointer (some ⟨Bt, 0, none⟩)]] w fun e w' => (∃ r, e = .returned r ∧ w'.ownsRow w.heap.size 3 1 r lo.length (zvals (lo.mergeSort fun x y => decide (x ≤ y)))) ∧ Below w.heap.size w w' := by
  have hap := collectV_calls h hB0 hlo hBt hv
  have Hhap := Lib.hid hap; clear hap; have Hh := Lib.hid h; clear h
  go_enter Try.func36, Try.ntmps36
  go_wp2_with fail
  refine Hhap.out.mono ?_
  rintro e w1 ⟨⟨r, rfl, hown⟩, hb⟩
  have hso := sortI_calls hown hlo
  obtain ⟨A, cap, rfl, hcap⟩ := own_form hown
  have Hhown := Lib.hid hown; clear hown; have Hhso := Lib.hid hso; clear hso
  go_wp2_with fail
  refine Hhso.out.mono ?_
  rintro e w2 ⟨rfl, hown2, hb2⟩
  have Hhown2 := Lib.hid hown2; clear hown2
  go_wp2_with fail
  go_ret
  exact ⟨⟨_, rfl, Hhown2.out⟩, hb.trans hb2⟩
theorem compactI_calls {w : World} {base : Nat} {r : Value} {zs : List Int} (h : w.ownsRow base 3 1 r zs.length (zvals zs)) (hlo : zs.length ≤ 1000000) (h0 : 0 < zs.length) :
    Calls Try.prog 38 #[r] w fun e w' => (∃ A cap, e = .returned (.slice A (Lib.compact zs).length cap)) ∧ Below base w w' := by
  obtain ⟨A, cap, rfl, hcap⟩ := own_form h
  obtain ⟨g, rfl⟩ : ∃ g, A = some ⟨g, 0, none⟩ := by
    obtain ⟨m, hm⟩ : ∃ m, zs.length = m + 1 := ⟨zs.length - 1, by omega⟩
    rw [hm] at h
    obtain ⟨g', c', h8⟩ := ownsRow_succ h
    injection h8 with h8
    exact ⟨_, h8⟩
  have hg := h.lt g rfl
  have hH : Sort.Holds (Value.int .i64) w g 0 zs.toArray := by
    intro j hj
    have hj : j < zs.length := by simpa using hj
    rw [Nat.zero_add]
    refine ⟨?_, h.frozenAt j⟩
    rw [h.cellAt j (by simpa using hj)]
    unfold zvals
    rw [List.getElem?_map, List.getElem?_eq_getElem hj, Option.map_some, getElem!_pos _ _ (by simpa using hj)]
    simp
  have hcon := Any.slices_Compact_int Try.compactInts g 0 cap zs w hH (by omega) hcap
  change Calls Try.prog 38 _ _ _ at hcon
  refine hcon.mono ?_
  rintro e w' ⟨rfl, q, rfl⟩
  exact ⟨⟨_, _, rfl⟩, (Below.refl _ _).grown (grown_put (Value.int .i64) _) (Nat.le_trans hg.1 (Nat.le_of_lt hg.2)) (fun q hq => by cases hq; exact hg.1)⟩
/-- May a list be a loop? -/
def rightB (lo : List Int) : Bool := decide (3 ≤ lo.length ∧ lo.Nodup)
set_option maxRecDepth 20000 in
set_option maxHeartbeats 1000000 in
theorem right_calls {w : World} {B : Nat} {sv : Value} {lo : List Int} (h : Sl 1 RInt w B sv lo) (hB0 : B ≤ w.heap.size) (hlo : lo.length ≤ 1000000) :
    Calls Try.prog 20 #[sv] w fun e w' => e = .returned (.bool (rightB lo)) ∧ Below w.heap.size w w' := by
  obtain ⟨A, cap, rfl, hcap⟩ := h.form
  have hva := values_calls A lo.length cap w
  have hb1 := (Below.refl w.heap.size w).alloc (Nat.le_refl _) (.cells #[.slice A lo.length cap] 31)
  have hso := sorted_calls (w := w.alloc (.cells #[.slice A lo.length cap] 31)) (Bt := w.heap.size) (h.below keeps_int (hb1.mono hB0)) (by rw [World.size_alloc]; omega) hlo (by rw [World.size_alloc]; omega) ((Bk.new w 31 [.slice A lo.length cap]).cell 0)
  have hsz1 := hb1.size
  have hlen : (lo.mergeSort fun x y => decide (x ≤ y)).length = lo.length := List.length_mergeSort _
  have hnd := sorted_nodup lo
  have hle := compact_le (lo.mergeSort fun x y => decide (x ≤ y))
  have hcl := compact_len (lo.mergeSort fun x y => decide (x ≤ y))
  generalize (lo.mergeSort fun x y => decide (x ≤ y)) = zs at *
  have Hh := Lib.hid h; clear h; have Hhva := Lib.hid hva; clear hva; have Hhso := Lib.hid hso; clear hso; have Hhnd := Lib.hid hnd; clear hnd; have Hhcl := Lib.hid hcl; clear hcl; have Hhb1 := Lib.hid hb1; clear hb1
  go_enter Try.func20, Try.ntmps20
  go_wp2_with fail
  refine Hhva.out.mono ?_
  rintro e w1 ⟨rfl, rfl⟩
  go_wp2_with fail
  refine Hhso.out.mono ?_
  rintro e w2 ⟨⟨r, rfl, hown⟩, hb2⟩
  have hown : w2.ownsRow w.heap.size 3 1 r zs.length (zvals zs) := by rw [hlen]; exact own_base hown hsz1
  have hco := fun h0 => compactI_calls hown (by omega) h0
  obtain ⟨A2, cap2, rfl, hcap2⟩ := own_form hown
  have hb3 := Hhb1.out.trans (hb2.mono hsz1)
  by_cases h3 : 3 ≤ lo.length
  · have hco := hco (by omega)
    have h3z : 3 ≤ zs.length := by omega
    have hq1 : zs.length ≤ 1000000 := by omega
    have Hhown := Lib.hid hown; clear hown; have Hhco := Lib.hid hco; clear hco; have Hhlen := Lib.hid hlen; clear hlen
    go_wp2_with fail
    refine Hhco.out.mono ?_
    rintro e w3 ⟨⟨A3, cap3, rfl⟩, hb4⟩
    have hb5 := hb3.trans hb4
    have hlen := Hhlen.out
    have hres : ((Lib.compact zs).length == lo.length) = rightB lo := by
      rw [Bool.eq_iff_iff, beq_iff_eq, ← hlen, Hhcl.out]
      unfold rightB
      rw [decide_eq_true_eq, Hhnd.out]
      exact ⟨fun h => ⟨h3, h⟩, fun h => h.2⟩
    have hres2 : (((Lib.compact zs).length : Int) == (lo.length : Int)) = rightB lo := by
      rw [← hres, Bool.eq_iff_iff, beq_iff_eq, beq_iff_eq]; omega
    clear hlen hres
    generalize (Lib.compact zs).length = cl at *
    go_wp2_with fail
    all_goals first | (exfalso; omega) | (go_ret; exact ⟨ret_bool (by simp_all), by assumption⟩)
  · have hres : rightB lo = false := decide_eq_false fun h => h3 h.1
    have h3z : zs.length < 3 := by omega
    have hq1 : zs.length ≤ 1000000 := by omega
    have Hhown := Lib.hid hown; clear hown; have Hhco := Lib.hid hco; clear hco; have Hhlen := Lib.hid hlen; clear hlen; have Hhres := Lib.hid hres; clear hres
    go_wp2_with fail
    all_goals first | (exfalso; omega) | (go_ret; exact ⟨ret_bool Hhres.out.symm, hb3⟩)
end Go.Proofs.Ytpbdcppaiafbgaa
