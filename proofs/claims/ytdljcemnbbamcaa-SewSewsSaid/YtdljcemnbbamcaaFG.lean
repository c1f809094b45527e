/- Walk: sew.placed: do all edges of pairs stand at places, and each once. -/
import Derived.Test.YtdljcemnbbamcaaFE
namespace Go.Mesh
/-- The edges of pairs, in their order. -/
def edgs (l : List P4) : List (Int × Int) := l.flatMap fun p => [p.1, p.2]
theorem edgs_snoc (l : List P4) (p : P4) : edgs (l ++ [p]) = edgs l ++ [p.1, p.2] := by unfold edgs; rw [List.flatMap_append]; rfl
theorem edgs_take {l : List P4} {k : Nat} {p : P4} (h : l[k]? = some p) : edgs (l.take (k + 1)) = edgs (l.take k) ++ [p.1, p.2] := by
  obtain ⟨hk, rfl⟩ := List.getElem?_eq_some_iff.1 h
  rw [List.take_succ_eq_append_getElem hk, edgs_snoc]
theorem edgs_split {l : List P4} {k : Nat} {p : P4} (h : l[k]? = some p) : ∃ r, edgs l = edgs (l.take k) ++ p.1 :: p.2 :: r := by
  refine ⟨edgs (l.drop (k + 1)), ?_⟩
  have e : l = l.take (k + 1) ++ l.drop (k + 1) := (List.take_append_drop _ _).symm
  conv => lhs; rw [e]
  unfold edgs
  rw [List.flatMap_append]
  have := edgs_take h
  unfold edgs at this
  rw [this, List.append_assoc]
  rfl
def edn (p : P4) (j : Nat) : Int × Int := if j = 0 then p.1 else p.2
theorem edn_cells (p : P4) (j : Nat) (hj : j < 2) : ([Value.int .i64 p.1.1, .int .i64 p.1.2, .int .i64 p.2.1, .int .i64 p.2.2] : List Value)[j * 2]? = some (.int .i64 (edn p j).1) ∧ ([Value.int .i64 p.1.1, .int .i64 p.1.2, .int .i64 p.2.1, .int .i64 p.2.2] : List Value)[j * 2 + 1]? = some (.int .i64 (edn p j).2) := by
  have : j = 0 ∨ j = 1 := by omega
  rcases this with rfl | rfl <;> exact ⟨rfl, rfl⟩
/-- The number that tells whether all edges stand somewhere, and each once. -/
def placedN (has : Int × Int → Bool) (l : List P4) : Int := if (edgs l).all has = true then if (edgs l).Nodup then 0 else 9 else 13
theorem placed_no {has : Int × Int → Bool} {l : List P4} {e : Int × Int} (he : e ∈ edgs l) (h : has e = false) : placedN has l = 13 := by
  unfold placedN
  rw [if_neg]
  intro h2
  rw [List.all_eq_true] at h2
  rw [h2 e he] at h
  cases h
theorem placed_twice {has : Int × Int → Bool} {l : List P4} (h1 : (edgs l).all has = true) (h : ¬ (edgs l).Nodup) : placedN has l = 9 := by unfold placedN; rw [if_pos h1, if_neg h]
theorem placed_ok {has : Int × Int → Bool} {l : List P4} (h1 : (edgs l).all has = true) (h : (edgs l).Nodup) : placedN has l = 0 := by unfold placedN; rw [if_pos h1, if_pos h]
end Go.Mesh
namespace Go.Proofs.Ytdljcemnbbamcaa
open Go Go.RowKit Go.Words Go.Mesh

set_option maxRecDepth 40000 in
set_option maxHeartbeats 8000000 in
theorem placed_calls {w : World} {B bm : Nat} {pv : Value} {l : List P4} (m : List ((Int × Int) × Int)) (hm : Mp enc2 ok2 enc1 w bm m) (h : Sl 4 R4 w B pv l) (hB0 : B ≤ w.heap.size) (hl : l.length ≤ 1000000) (hok : ∀ e ∈ edgs l, ok2 e) :
    Calls Try.prog 23 #[.map (some bm), pv] w fun e w' => e = .returned (.int .i64 (placedN (fun e => (Words.look m e).isSome) l)) ∧ Below w.heap.size w w' := by
  obtain ⟨A, cap, rfl, hcap⟩ := h.form
  have hml := hm.lt
  have hbw0 := Below.refl w.heap.size w
  have hno : ∀ e ∈ edgs l, Words.look m e = none → placedN (fun e => (Words.look m e).isSome) l = 13 := fun e he h1 => placed_no he (by rw [h1]; rfl)
  have htw : (∀ e ∈ edgs l, (Words.look m e).isSome = true) → ¬ (edgs l).Nodup → placedN (fun e => (Words.look m e).isSome) l = 9 := fun h1 => placed_twice (List.all_eq_true.2 h1)
  have hyes : (∀ e ∈ edgs l, (Words.look m e).isSome = true) → (edgs l).Nodup → placedN (fun e => (Words.look m e).isSome) l = 0 := fun h1 => placed_ok (List.all_eq_true.2 h1)
  generalize placedN (fun e => (Words.look m e).isSome) l = z at *
  have Hhm := Lib.hid hm; clear hm; have Hh := Lib.hid h; clear h; have Hhok := Lib.hid hok; clear hok; have Hhno := Lib.hid hno; clear hno; have Hhtw := Lib.hid htw; clear htw; have Hhyes := Lib.hid hyes; clear hyes
  go_enter Try.func23, Try.ntmps23
  go_wp2_with fail
  go_loopw [18] (fun iv wr => ∃ k : Nat, k ≤ l.length ∧ iv = .int .i64 (k : Int) ∧ (∀ e ∈ edgs (l.take k), (Words.look m e).isSome = true) ∧ Below w.heap.size w wr) (fun iv _ => l.length - (intOf iv).toNat)
  case atStart => exact ⟨0, by omega, rfl, fun e he => by simp [edgs] at he, hbw0⟩
  case round =>
    obtain ⟨k, hk, rfl, hall, hbel⟩ := hrel
    obtain ⟨w1, hw1⟩ : ∃ w1, w1 = wr := ⟨_, rfl⟩
    subst hw1
    by_cases hlt : k < l.length
    · obtain ⟨p, hp⟩ : ∃ p, l[k]? = some p := ⟨_, List.getElem?_eq_getElem hlt⟩
      obtain ⟨b, o, rfl, hb, a1, a2, a3, a4⟩ := (Hh.out.below keeps_4 (hbel.mono hB0)).p4_at hp
      have hmw := Hhm.out.below hbel hml
      have hmlw := hmw.lt
      obtain ⟨rest, hrest⟩ := edgs_split hp
      have hokp : ∀ j, ok2 (edn p j) := fun j => by
        refine Hhok.out _ ?_
        rw [hrest]
        unfold edn
        split <;> simp
      have hmemp : ∀ j, edn p j ∈ edgs l := fun j => by
        rw [hrest]
        unfold edn
        split <;> simp
      have hnext : (∀ j, j < 2 → (Words.look m (edn p j)).isSome = true) → ∀ e ∈ edgs (l.take (k + 1)), (Words.look m e).isSome = true := fun h2 e he => by
        rw [edgs_take hp] at he
        rcases List.mem_append.1 he with h3 | h3
        · exact hall e h3
        · rcases List.mem_cons.1 h3 with rfl | h3
          · exact h2 0 (by omega)
          · rw [List.mem_singleton.1 h3]; exact h2 1 (by omega)
      have hbwb : b < w1.heap.size := by have := hbel.size; omega
      have hzr := hbel.size
      have hpc := edn_cells p
      obtain ⟨⟨x1, x2⟩, x3, x4⟩ := p
      simp only [] at a1 a2 a3 a4
      have hb2 := ((Below.refl w1.heap.size w1).alloc (Nat.le_refl _) (.cells #[.int .i64 x1, .int .i64 x2, .int .i64 x3, .int .i64 x4] 49)).alloc (by simp) (.cells #[.int .i64 x1, .int .i64 x2, .int .i64 x3, .int .i64 x4] 47)
      have hk2 := Bk.new' (n := w1.heap.size + 1) (w := w1.alloc (.cells #[.int .i64 x1, .int .i64 x2, .int .i64 x3, .int .i64 x4] 49)) 47 [.int .i64 x1, .int .i64 x2, .int .i64 x3, .int .i64 x4] (by simp)
      have Hhmw := Lib.hid hmw; clear hmw; have Hhall := Lib.hid hall; clear hall; have Hhokp := Lib.hid hokp; clear hokp; have Hhmemp := Lib.hid hmemp; clear hmemp; have Hhnext := Lib.hid hnext; clear hnext; have Hhrest := Lib.hid hrest; clear hrest; have Hhb2 := Lib.hid hb2; clear hb2; have Hhk2 := Lib.hid hk2; clear hk2; have Hhpc := Lib.hid hpc; clear hpc
      go_wp2_with fail
      go_loopw [28] (fun jv wz => ∃ j : Nat, j ≤ 2 ∧ jv = .int .i64 (j : Int) ∧ (∀ i, i < j → (Words.look m (edn ((x1, x2), x3, x4) i)).isSome = true) ∧ Bk wz (w1.heap.size + 1) 47 [.int .i64 x1, .int .i64 x2, .int .i64 x3, .int .i64 x4] ∧ Below w1.heap.size w1 wz) (fun jv _ => 2 - (intOf jv).toNat)
      case atStart => exact ⟨0, by omega, rfl, fun i hi => by omega, Hhk2.out, Hhb2.out⟩
      case round =>
        obtain ⟨j, hj, rfl, hpre, hkz, hbz⟩ := hrel
        have hbz2 := hbel.trans (hbz.mono hzr)
        by_cases hj2 : j < 2
        · have cj := Hhpc.out j hj2
          have c1 := (hkz.cell (j * 2)).trans cj.1
          have c2 := (hkz.cell (j * 2 + 1)).trans cj.2
          have hoke := Hhokp.out j
          have hmem := Hhmemp.out j
          have hstep : (Words.look m (edn ((x1, x2), x3, x4) j)).isSome = true → ∀ i, i < j + 1 → (Words.look m (edn ((x1, x2), x3, x4) i)).isSome = true := fun h2 i hi => by
            by_cases hij : i = j
            · rw [hij]; exact h2
            · exact hpre i (by omega)
          generalize edn ((x1, x2), x3, x4) j = e at *
          obtain ⟨e1, e2⟩ := e
          simp only [] at c1 c2
          have hmz := (Hhmw.out.below hbz hmlw).alloc (.cells #[.int .i64 e1, .int .i64 e2] 47)
          have hbl := hkz.lt
          have hkz2 := hkz.alloc (.cells #[.int .i64 e1, .int .i64 e2] 47)
          have hbz3 := hbz.alloc (by have := hbz.size; omega) (.cells #[.int .i64 e1, .int .i64 e2] 47)
          have hbz4 := hbz2.alloc (by have := hbz2.size; omega) (.cells #[.int .i64 e1, .int .i64 e2] 47)
          cases hlk : Words.look m (e1, e2) with
          | none =>
            have hz := Hhno.out _ hmem hlk
            have Hhpre := Lib.hid hpre; clear hpre; have Hhkz := Lib.hid hkz; clear hkz; have Hhoke := Lib.hid hoke; clear hoke; have Hhmem := Lib.hid hmem; clear hmem; have Hhstep := Lib.hid hstep; clear hstep; have Hhmz := Lib.hid hmz; clear hmz; have Hhlk := Lib.hid hlk; clear hlk; have Hhz := Lib.hid hz; clear hz; have Hhkz2 := Lib.hid hkz2; clear hkz2; have Hhbz3 := Lib.hid hbz3; clear hbz3; have Hhbz4 := Lib.hid hbz4; clear hbz4
            go_wp2_with (at_lookup; refine wpList_look_ok _ rfl _ _ 68 rfl 47 3 keyE Try.underlying68 zero_int bm m rfl Hhmz.out (e1, e2) rfl Hhoke.out ?_; rw [Hhlk.out, show (((none : Option Int).map enc1).getD (.int .i64 0)) = .int .i64 0 from rfl, show (none : Option Int).isSome = false from rfl])
            go_ret
            exact ⟨ret_int Hhz.out.symm, Hhbz4.out⟩
          | some pl =>
            have hst := hstep (by rw [hlk]; rfl)
            have Hhpre := Lib.hid hpre; clear hpre; have Hhkz := Lib.hid hkz; clear hkz; have Hhoke := Lib.hid hoke; clear hoke; have Hhmem := Lib.hid hmem; clear hmem; have Hhstep := Lib.hid hstep; clear hstep; have Hhmz := Lib.hid hmz; clear hmz; have Hhlk := Lib.hid hlk; clear hlk; have Hhkz2 := Lib.hid hkz2; clear hkz2; have Hhbz3 := Lib.hid hbz3; clear hbz3; have Hhbz4 := Lib.hid hbz4; clear hbz4; have Hhst := Lib.hid hst; clear hst
            go_wp2_with (at_lookup; refine wpList_look_ok _ rfl _ _ 68 rfl 47 3 keyE Try.underlying68 zero_int bm m rfl Hhmz.out (e1, e2) rfl Hhoke.out ?_; rw [Hhlk.out, show (((some pl : Option Int).map enc1).getD (.int .i64 0)) = .int .i64 pl from rfl, show (some pl : Option Int).isSome = true from rfl])
            exact ⟨⟨j + 1, by omega, by simp, Hhst.out, Hhkz2.out, Hhbz3.out⟩, by simp [intOf]; omega⟩
        · obtain rfl : j = 2 := by omega
          have hn := Hhnext.out hpre
          have Hhpre := Lib.hid hpre; clear hpre; have Hhkz := Lib.hid hkz; clear hkz; have Hhn := Lib.hid hn; clear hn
          go_wp2_with fail
          exact ⟨⟨k + 1, by omega, by simp, Hhn.out, hbz2⟩, by simp [intOf]; omega⟩
    · obtain rfl : k = l.length := by omega
      rw [List.take_length] at hall
      have htw := Hhtw.out hall
      have hyes := Hhyes.out hall
      have hnew := Mp.new (enc := enc2) (ok := ok2) (ev := fun _ : Unit => Value.bool true) w1
      have hbn := hbel.alloc hbel.size (.map #[] 0)
      have hzr := hbel.size
      have hmm := @run_makeMap Try.prog
      have Hhall := Lib.hid hall; clear hall; have Hhtw := Lib.hid htw; clear htw; have Hhyes := Lib.hid hyes; clear hyes; have Hhnew := Lib.hid hnew; clear hnew
      go_wp2_with fail
      clear hmm
      go_loopw [45] (fun iv wr => ∃ (k : Nat) (S : List ((Int × Int) × Unit)), k ≤ l.length ∧ iv = .int .i64 (k : Int) ∧ (edgs (l.take k)).Nodup ∧ Mp enc2 ok2 (fun _ : Unit => Value.bool true) wr w1.heap.size S ∧ (∀ e, (Words.look S e).isSome = true ↔ e ∈ edgs (l.take k)) ∧ Below w.heap.size w wr) (fun iv _ => l.length - (intOf iv).toNat)
      case atStart => exact ⟨0, [], by omega, rfl, List.nodup_nil, Hhnew.out, fun e => by simp [edgs, Words.look], hbn⟩
      case round =>
        obtain ⟨k, S, hk, rfl, hnd, hmp, hS, hbr⟩ := hrel
        obtain ⟨w2, hw2⟩ : ∃ w2, w2 = wr := ⟨_, rfl⟩
        subst hw2
        have hml2 := hmp.lt
        by_cases hlt : k < l.length
        · obtain ⟨p, hp⟩ : ∃ p, l[k]? = some p := ⟨_, List.getElem?_eq_getElem hlt⟩
          obtain ⟨b, o, rfl, hb, a1, a2, a3, a4⟩ := (Hh.out.below keeps_4 (hbr.mono hB0)).p4_at hp
          obtain ⟨rest, hrest⟩ := edgs_split hp
          have hokp : ∀ j, ok2 (edn p j) := fun j => by
            refine Hhok.out _ ?_
            rw [hrest]
            unfold edn
            split <;> simp
          have hbad : ∀ j, j < 2 → edn p j ∈ edgs (l.take k) ++ [p.1, p.2].take j → ¬ (edgs l).Nodup := fun j hj he hn => by
            rw [hrest] at hn
            have hj2 : j = 0 ∨ j = 1 := by omega
            rcases hj2 with rfl | rfl
            · simp only [List.take_zero, List.append_nil] at he
              exact (List.nodup_append.1 hn).2.2 _ he _ (by simp [edn]) rfl
            · simp only [List.take_succ_cons, List.take_zero] at he
              rcases List.mem_append.1 he with h1 | h1
              · exact (List.nodup_append.1 hn).2.2 _ h1 _ (by simp [edn]) rfl
              · have := (List.nodup_cons.1 (List.nodup_append.1 hn).2.1).1
                rw [List.mem_singleton.1 h1 |>.symm] at this
                exact this (by simp [edn])
          have hpre2 : ∀ j, j < 2 → edgs (l.take k) ++ [p.1, p.2].take (j + 1) = (edgs (l.take k) ++ [p.1, p.2].take j) ++ [edn p j] := fun j hj => by
            have hj2 : j = 0 ∨ j = 1 := by omega
            rcases hj2 with rfl | rfl <;> simp [edn]
          have htk : edgs (l.take (k + 1)) = edgs (l.take k) ++ [p.1, p.2].take 2 := edgs_take hp
          have hbwb : b < w2.heap.size := by have := hbr.size; omega
          have hzr2 := hbr.size
          have hpc := edn_cells p
          generalize hE : edgs (l.take k) = E at *
          have hE0 : E ++ [p.1, p.2].take 0 = E := by simp
          obtain ⟨⟨x1, x2⟩, x3, x4⟩ := p
          simp only [] at a1 a2 a3 a4
          have hb2 := (hbr.alloc hbr.size (.cells #[.int .i64 x1, .int .i64 x2, .int .i64 x3, .int .i64 x4] 49)).alloc (by simp; omega) (.cells #[.int .i64 x1, .int .i64 x2, .int .i64 x3, .int .i64 x4] 47)
          have hk2 := Bk.new' (n := w2.heap.size + 1) (w := w2.alloc (.cells #[.int .i64 x1, .int .i64 x2, .int .i64 x3, .int .i64 x4] 49)) 47 [.int .i64 x1, .int .i64 x2, .int .i64 x3, .int .i64 x4] (by simp)
          have hm2 := (hmp.alloc (.cells #[.int .i64 x1, .int .i64 x2, .int .i64 x3, .int .i64 x4] 49)).alloc (.cells #[.int .i64 x1, .int .i64 x2, .int .i64 x3, .int .i64 x4] 47)
          rw [← hE0] at hnd hS
          have Hhmp := Lib.hid hmp; clear hmp; have Hhnd := Lib.hid hnd; clear hnd; have HhS := Lib.hid hS; clear hS; have Hhokp := Lib.hid hokp; clear hokp; have Hhbad := Lib.hid hbad; clear hbad; have Hhpre2 := Lib.hid hpre2; clear hpre2; have Hhtk := Lib.hid htk; clear htk; have Hhrest := Lib.hid hrest; clear hrest; have Hhb2 := Lib.hid hb2; clear hb2; have Hhk2 := Lib.hid hk2; clear hk2; have Hhpc := Lib.hid hpc; clear hpc; have Hhm2 := Lib.hid hm2; clear hm2; have HhE := Lib.hid hE; clear hE; have HhE0 := Lib.hid hE0; clear hE0
          go_wp2_with fail
          go_loopw [55] (fun jv wz => ∃ (j : Nat) (S : List ((Int × Int) × Unit)), j ≤ 2 ∧ jv = .int .i64 (j : Int) ∧ (E ++ [(x1, x2), (x3, x4)].take j).Nodup ∧ Mp enc2 ok2 (fun _ : Unit => Value.bool true) wz w1.heap.size S ∧ (∀ e, (Words.look S e).isSome = true ↔ e ∈ E ++ [(x1, x2), (x3, x4)].take j) ∧ Bk wz (w2.heap.size + 1) 47 [.int .i64 x1, .int .i64 x2, .int .i64 x3, .int .i64 x4] ∧ Below w.heap.size w wz) (fun jv _ => 2 - (intOf jv).toNat)
          case atStart => exact ⟨0, S, by omega, rfl, Hhnd.out, Hhm2.out, HhS.out, Hhk2.out, Hhb2.out⟩
          case round =>
            obtain ⟨j, S3, hj, rfl, hnd3, hm3, hS3, hkz, hbz⟩ := hrel
            by_cases hj2 : j < 2
            · have cj := Hhpc.out j hj2
              have c1 := (hkz.cell (j * 2)).trans cj.1
              have c2 := (hkz.cell (j * 2 + 1)).trans cj.2
              have hoke := Hhokp.out j
              have hbd := Hhbad.out j hj2
              have hp3 := Hhpre2.out j hj2
              rw [← hS3] at hbd
              generalize edn ((x1, x2), x3, x4) j = e at *
              generalize E ++ [(x1, x2), (x3, x4)].take j = E3 at *
              obtain ⟨e1, e2⟩ := e
              simp only [] at c1 c2
              have hmz := hm3.alloc (.cells #[.int .i64 e1, .int .i64 e2] 47)
              have hbl := hkz.lt
              have hkz2 := hkz.alloc (.cells #[.int .i64 e1, .int .i64 e2] 47)
              have hbz4 := hbz.alloc hbz.size (.cells #[.int .i64 e1, .int .i64 e2] 47)
              cases hlk : Words.look S3 (e1, e2) with
              | some u =>
                have hz := Hhtw.out (hbd (by rw [hlk]; rfl))
                have Hhnd3 := Lib.hid hnd3; clear hnd3; have Hhm3 := Lib.hid hm3; clear hm3; have HhS3 := Lib.hid hS3; clear hS3; have Hhkz := Lib.hid hkz; clear hkz; have Hhoke := Lib.hid hoke; clear hoke; have Hhbd := Lib.hid hbd; clear hbd; have Hhp3 := Lib.hid hp3; clear hp3; have Hhmz := Lib.hid hmz; clear hmz; have Hhlk := Lib.hid hlk; clear hlk; have Hhz := Lib.hid hz; clear hz; have Hhkz2 := Lib.hid hkz2; clear hkz2; have Hhbz4 := Lib.hid hbz4; clear hbz4
                go_wp2_with (at_lookup; refine wpList_look _ rfl _ _ 93 rfl 47 4 keyE Try.underlying93 zero_bool w1.heap.size S3 rfl Hhmz.out (e1, e2) rfl Hhoke.out ?_; rw [Hhlk.out, show (((some u : Option Unit).map (fun _ : Unit => Value.bool true)).getD (.bool false)) = .bool true from rfl])
                go_ret
                exact ⟨ret_int Hhz.out.symm, Hhbz4.out⟩
              | none =>
                have hno : (e1, e2) ∉ E3 := fun h9 => by
                  have := (hS3 (e1, e2)).2 h9
                  rw [hlk] at this
                  cases this
                have hnd4 : (E3 ++ [(e1, e2)]).Nodup := List.nodup_append.2 ⟨hnd3, by simp, fun a ha b hb => by
                  rw [List.mem_singleton.1 hb]; exact fun h9 => hno (h9 ▸ ha)⟩
                have hS4 : ∀ e, (Words.look (Words.put S3 (e1, e2) ()) e).isSome = true ↔ e ∈ E3 ++ [(e1, e2)] := fun e => by
                  rw [look_put]
                  by_cases h9 : (e1, e2) = e
                  · rw [if_pos h9]; simp [h9]
                  · rw [if_neg h9, hS3 e, List.mem_append, List.mem_singleton]
                    exact ⟨.inl, fun h8 => h8.resolve_right fun h7 => h9 h7.symm⟩
                rw [← hp3] at hnd4 hS4
                have hne : some (w2.heap.size + 1) ≠ some w1.heap.size := fun h9 => by injection h9; omega
                have Hhnd3 := Lib.hid hnd3; clear hnd3; have Hhm3 := Lib.hid hm3; clear hm3; have HhS3 := Lib.hid hS3; clear hS3; have Hhkz := Lib.hid hkz; clear hkz; have Hhoke := Lib.hid hoke; clear hoke; have Hhbd := Lib.hid hbd; clear hbd; have Hhp3 := Lib.hid hp3; clear hp3; have Hhmz := Lib.hid hmz; clear hmz; have Hhlk := Lib.hid hlk; clear hlk; have Hhkz2 := Lib.hid hkz2; clear hkz2; have Hhbz4 := Lib.hid hbz4; clear hbz4; have Hhno := Lib.hid hno; clear hno; have Hhnd4 := Lib.hid hnd4; clear hnd4; have HhS4 := Lib.hid hS4; clear hS4
                go_wp2_with (first
                  | (at_lookup; refine wpList_look _ rfl _ _ 93 rfl 47 4 keyE Try.underlying93 zero_bool w1.heap.size S3 rfl Hhmz.out (e1, e2) rfl Hhoke.out ?_; rw [Hhlk.out, show (((none : Option Unit).map (fun _ : Unit => Value.bool true)).getD (.bool false)) = .bool false from rfl])
                  | (at_mapUpdate; refine wpList_put _ rfl _ _ _ 93 rfl 47 4 keyE Try.underlying93 w1.heap.size S3 rfl Hhmz.out (e1, e2) rfl Hhoke.out () rfl ?_; intro w4 hmp4 hgr4 hsz4; have Hhmp4 := Lib.hid hmp4; clear hmp4; have Hhgr4 := Lib.hid hgr4; clear hgr4; clear hsz4))
                exact ⟨⟨j + 1, _, by omega, by simp, Hhnd4.out, Hhmp4.out, HhS4.out, Hhkz2.out.grown Hhgr4.out hne, Hhbz4.out.grown Hhgr4.out Hhbz4.out.size (fun q hq => by cases hq; exact hzr)⟩, by simp [intOf]; omega⟩
            · obtain rfl : j = 2 := by omega
              have hnd4 := hnd3
              have hS4 := hS3
              have ht := Hhtk.out
              rw [← ht] at hnd4 hS4
              have Hhnd3 := Lib.hid hnd3; clear hnd3; have Hhm3 := Lib.hid hm3; clear hm3; have HhS3 := Lib.hid hS3; clear hS3; have Hhkz := Lib.hid hkz; clear hkz; have Hhnd4 := Lib.hid hnd4; clear hnd4; have HhS4 := Lib.hid hS4; clear hS4; have Hht := Lib.hid ht; clear ht
              go_wp2_with fail
              exact ⟨⟨k + 1, S3, by omega, by simp, Hhnd4.out, Hhm3.out, HhS4.out, hbz⟩, by simp [intOf]; omega⟩
        · obtain rfl : k = l.length := by omega
          rw [List.take_length] at hnd
          have hz := Hhyes.out hnd
          have Hhnd := Lib.hid hnd; clear hnd; have Hhmp := Lib.hid hmp; clear hmp; have HhS := Lib.hid hS; clear hS; have Hhz := Lib.hid hz; clear hz
          go_wp2_with fail
          go_ret
          exact ⟨ret_int Hhz.out.symm, hbr⟩
end Go.Proofs.Ytdljcemnbbamcaa
