/- Walks: cut.Along. Walks: law19's example and bounds. -/
import Derived.Test.YtpbdcppaiafbgaaGreatIE
import Derived.Test.YtpbdcppaiafbgaaGreatHK
import Derived.Test.YtpbdcppaiafbgaaGreatFE
import Derived.Test.YtpbdcppaiafbgaaGreatTS
namespace Go.Words
open Go Go.RowKit Go.Mesh
def quad (l : List P4) : List Value := l.flatMap fun p => [.int .i64 p.1.1, .int .i64 p.1.2, .int .i64 p.2.1, .int .i64 p.2.2]
theorem quad_snoc (l : List P4) (p : P4) : quad (l ++ [p]) = quad l ++ [.int .i64 p.1.1, .int .i64 p.1.2, .int .i64 p.2.1, .int .i64 p.2.2] := by unfold quad; rw [List.flatMap_append]; rfl
theorem quad_at (l : List P4) : ∀ (i : Nat) (p : P4), l[i]? = some p → ((quad l).drop (i * 4)).take 4 = [.int .i64 p.1.1, .int .i64 p.1.2, .int .i64 p.2.1, .int .i64 p.2.2] := by
  induction l with
  | nil => intro i b h; simp at h
  | cons x l ih =>
    intro i b h
    cases i with
    | zero =>
      have : x = b := by simpa using h
      subst this
      simp [quad]
    | succ i =>
      have h2 := ih i b (by simpa using h)
      rw [show (i + 1) * 4 = i * 4 + 1 + 1 + 1 + 1 by omega]
      simp only [quad, List.flatMap_cons, List.cons_append, List.nil_append, List.drop_succ_cons]
      exact h2
end Go.Words
namespace Go.Proofs.YtpbdcppaiafbgaaGreat
open Go Go.RowKit Go.Words Go.Mesh
theorem infoPr : (Tryz.prog.info? 41).map (fun i => (i.zero, i.size, i.bytes)) = some (some (.agg #[.int .i64 0, .int .i64 0, .int .i64 0, .int .i64 0]), 4, 32) := by kernel_rfl
theorem along_fin {w w' : World} {B b9 g bc be k : Nat} {tv sv wv pv : Value} {N n : Int} {T X : List T3} {L : List (Int × Int)} {O : List Int} {P : List P4} (hC : Ctr w B g bc be tv N T L n sv wv X O) (hown : w.ownsRow b9 41 4 pv P.length (quad P)) (hk : k < B) (hk9 : k < b9) (hfar : ∀ j, j ≠ k → w'.heap[j]? = w.heap[j]?) :
    Sl 3 RTri w' w'.heap.size sv X ∧ Sl 1 RInt w' w'.heap.size wv O ∧ Sl 4 R4 w' w'.heap.size pv P := by
  have hset : ∀ (v : Value) (base size m : Nat) (e : TypeId) (xs : List Value), w.ownsRow base e size v m xs → k < base → w'.ownsRow base e size v m xs := fun v base size m e xs h hb => by
    refine ⟨h.1, ?_⟩
    rcases h.2 with h0 | ⟨g', cap, cur, h1, h2, h3, h4⟩
    · exact .inl h0
    · exact .inr ⟨g', cap, cur, h1, h2, by rw [hfar g' (by omega)]; exact h3, h4⟩
  exact ⟨Sl.of_own (hset _ _ _ _ _ _ hC.sow hk) fun i a hi => flat3_at X i a hi, Sl.of_own (hset _ _ _ _ _ _ hC.wow hk) fun i a hi => by
      unfold RInt
      have hlt := (List.getElem?_eq_some_iff.1 hi).1
      unfold ivals
      rw [Nat.mul_one, List.drop_eq_getElem_cons (by simpa using hlt)]
      simp only [List.take_succ_cons, List.take_zero, List.getElem_map]
      rw [List.getElem?_eq_getElem hlt] at hi
      rw [Option.some.inj hi], Sl.of_own (hset _ _ _ _ _ _ hown hk9) fun i a hi => quad_at P i a hi⟩
def AlongEnd (w' : World) (N : Int) (T : List T3) (l : List (Int × Int)) (r : Value) (c : Int) : Prop :=
  AlongC N T l c ∧ (c ≠ 0 → r = failV c) ∧ (c = 0 → ∃ sv wv pv Es, r = .tuple #[.agg #[.int .i64 ((newO N T (l.map nm)).length : Nat), sv], wv, pv, .int .i64 0] ∧ Sl 3 RTri w' w'.heap.size sv (newX N T (l.map nm)) ∧ Sl 1 RInt w' w'.heap.size wv (newO N T (l.map nm)) ∧ EdgesIs T Es ∧ Sl 4 R4 w' w'.heap.size pv (pairsL N T l Es))
set_option maxRecDepth 40000 in
set_option maxHeartbeats 8000000 in
theorem along_calls {w : World} {B : Nat} {sv lv : Value} {N : Int} {T : List T3} {l : List (Int × Int)} (hB0 : B ≤ w.heap.size) (hT : Sl 3 RTri w B sv T) (hN : I64 N) (hl : Sl 2 RPair w B lv l) (hok : ∀ e ∈ l, ok2 e) (hll : l.length ≤ 1000) :
    Calls Tryz.prog 21 #[.agg #[.int .i64 N, sv], lv] w fun e w' => (∃ r c, e = .returned r ∧ AlongEnd w' N T l r c) ∧ Below w.heap.size w w' := by
  obtain ⟨A, cap, rfl, hcap⟩ := hT.form
  obtain ⟨Al, capl, rfl, hcapl⟩ := hl.form
  have hb1 := ((Below.refl w.heap.size w).alloc (Nat.le_refl _) (.cells #[.int .i64 N, .slice A T.length cap] 24)).alloc (by simp) (.cells #[.int .i64 0, .slice none 0 0] 24)
  have hk1 := (Bk.new w 24 [.int .i64 N, .slice A T.length cap]).alloc (.cells #[.int .i64 0, .slice none 0 0] 24)
  have hk2 := Bk.new' (n := w.heap.size + 1) (w := w.alloc (.cells #[.int .i64 N, .slice A T.length cap] 24)) 24 [.int .i64 0, .slice none 0 0] (by simp)
  have hTA := hT.below keeps_tri (hb1.mono hB0)
  have hlA := hl.below keeps_pair (hb1.mono hB0)
  have hz0 : w.heap.size + 2 ≤ ((w.alloc (.cells #[.int .i64 N, .slice A T.length cap] 24)).alloc (.cells #[.int .i64 0, .slice none 0 0] 24)).heap.size := by simp
  generalize hw0 : (w.alloc (.cells #[.int .i64 N, .slice A T.length cap] 24)).alloc (.cells #[.int .i64 0, .slice none 0 0] 24) = w0 at *
  have hnw := new_calls (.slice A T.length cap) N T w0 (B := B) (by omega) hTA hN
  have c0 : w0.cell? ⟨w.heap.size, 0, none⟩ = some (.int .i64 N) := hk1.cell 0
  have c1 : w0.cell? ⟨w.heap.size, 1, none⟩ = some (.slice A T.length cap) := hk1.cell 1
  have HhT := Lib.hid hT; clear hT; have Hhl := Lib.hid hl; clear hl; have Hhk1 := Lib.hid hk1; clear hk1; have Hhk2 := Lib.hid hk2; clear hk2; have HhTA := Lib.hid hTA; clear hTA; have HhlA := Lib.hid hlA; clear hlA; have Hhnw := Lib.hid hnw; clear hnw; have Hhok := Lib.hid hok; clear hok
  go_enter Tryz.func21, Tryz.ntmps21
  go_wp2_with fail
  clear hw0
  refine Hhnw.out.mono ?_
  rintro e w1 ⟨⟨pv, x, y, z, rfl, hor⟩, hb2⟩
  have hz1 := hb2.size
  have hbel1 := hb1.trans (hb2.mono (by omega))
  have hk11 := Hhk1.out.below hb2 (by omega)
  have hk21 := Hhk2.out.below hb2 (by omega)
  have hTw := HhTA.out.below keeps_tri (hb2.mono (by omega))
  have hlw := HhlA.out.below keeps_pair (hb2.mono (by omega))
  have hb3 := (Below.refl w1.heap.size w1).alloc (Nat.le_refl _) (.cells #[.int .i64 x, .int .i64 y, .int .i64 z] 48)
  have hz2 : w1.heap.size + 1 ≤ (w1.alloc (.cells #[.int .i64 x, .int .i64 y, .int .i64 z] 48)).heap.size := by simp
  generalize hw2 : w1.alloc (.cells #[.int .i64 x, .int .i64 y, .int .i64 z] 48) = w2 at *
  have hbel2 := hbel1.trans (hb3.mono (by omega))
  have hk12 := hk11.below hb3 hk11.lt
  have hk22 := hk21.below hb3 hk21.lt
  have hTw2 := hTw.below keeps_tri (hb3.mono (by omega))
  have hlw2 := hlw.below keeps_pair (hb3.mono (by omega))
  rcases hor with ⟨hs, htab⟩ | ⟨hns, rfl⟩
  case inr =>
    have hfl := fail_calls 11 w2
    have hkW := hk22
    have hbelW := hbel2
    have hres : AlongC N T l 11 := .inl ⟨hns, rfl⟩
    have Hhres := Lib.hid hres; clear hres; have HhkW := Lib.hid hkW; clear hkW; have HhbelW := Lib.hid hbelW; clear hbelW; have Hhk11 := Lib.hid hk11; clear hk11; have Hhk21 := Lib.hid hk21; clear hk21; have Hhk12 := Lib.hid hk12; clear hk12; have Hhk22 := Lib.hid hk22; clear hk22; have HhTw := Lib.hid hTw; clear hTw; have Hhlw := Lib.hid hlw; clear hlw; have HhTw2 := Lib.hid hTw2; clear hTw2; have Hhlw2 := Lib.hid hlw2; clear hlw2; have Hhfl := Lib.hid hfl; clear hfl
    go_wp2_with fail
    refine Hhfl.out.mono ?_
    rintro e wf ⟨rfl, hbf⟩
    have hkf := HhkW.out.below hbf HhkW.out.lt
    have hbelf := HhbelW.out.trans (hbf.mono HhbelW.out.size)
    have zf0 := hkf.frozen 0
    have zf1 := hkf.frozen 1
    have zc0 := hkf.cell 0
    have zc1 := hkf.cell 1
    simp only [List.getElem?_cons_zero, List.getElem?_cons_succ] at zc0 zc1
    have hkf2 := (hkf.set 0 (.int .i64 0)).set 1 (.slice none 0 0)
    have hbf2 := (hbelf.setCell (p := ⟨w.heap.size + 1, 0, none⟩) (by simp) (.int .i64 0)).setCell (p := ⟨w.heap.size + 1, 1, none⟩) (by simp) (.slice none 0 0)
    have Hhkf := Lib.hid hkf; clear hkf; have Hhbelf := Lib.hid hbelf; clear hbelf; have Hhkf2 := Lib.hid hkf2; clear hkf2; have Hhbf2 := Lib.hid hbf2; clear hbf2
    go_wp2_with fail
    exact ret_cttt rfl rfl Hhkf2.out Tryz.underlying24 rfl (by kernel_rfl) rfl ⟨⟨_, 11, rfl, Hhres.out, fun _ => rfl, fun h9 => absurd h9 (by decide)⟩, Hhbf2.out⟩
  case inl =>
    obtain ⟨t, rfl⟩ : ∃ t, pv = .pointer (some t) := by
      obtain ⟨g, _, _, _, _, _, rfl, _⟩ := htab
      exact ⟨_, rfl⟩
    have hfi := fits_calls hTw2 (by omega) hs
    have d0 : w2.cell? ⟨w.heap.size, 0, none⟩ = some (.int .i64 N) := hk12.cell 0
    have d1 : w2.cell? ⟨w.heap.size, 1, none⟩ = some (.slice A T.length cap) := hk12.cell 1
    have Hhs := Lib.hid hs; clear hs; have Hhk11 := Lib.hid hk11; clear hk11; have Hhk21 := Lib.hid hk21; clear hk21; have Hhk12 := Lib.hid hk12; clear hk12; have Hhk22 := Lib.hid hk22; clear hk22; have HhTw := Lib.hid hTw; clear hTw; have Hhlw := Lib.hid hlw; clear hlw; have HhTw2 := Lib.hid hTw2; clear hTw2; have Hhlw2 := Lib.hid hlw2; clear hlw2; have Hhfi := Lib.hid hfi; clear hfi; have Hhtab := Lib.hid htab; clear htab
    go_wp2_with fail
    refine Hhfi.out.mono ?_
    rintro e w3 ⟨rfl, hb4⟩
    have hz3 := hb4.size
    have hbel3 := hbel2.trans (hb4.mono (by omega))
    have hk13 := Hhk12.out.below hb4 Hhk12.out.lt
    have hk23 := Hhk22.out.below hb4 Hhk22.out.lt
    have hTw3 := HhTw2.out.below keeps_tri (hb4.mono (by omega))
    have hlw3 := Hhlw2.out.below keeps_pair (hb4.mono (by omega))
    have hb5 := ((Below.refl w3.heap.size w3).alloc (Nat.le_refl _) (.map #[] 0)).alloc (by simp) (.map #[] 0)
    have hm1 := (Mp.new' (enc := enc2) (ok := ok2) (ev := fun _ : Unit => .bool true) (n := w3.heap.size) (w := w3) rfl).alloc (.map #[] 0)
    have hm2 := Mp.new' (enc := enc1) (ok := I64) (ev := enc1) (n := w3.heap.size + 1) (w := w3.alloc (.map #[] 0)) (by simp)
    have hz4 : ((w3.alloc (.map #[] 0)).alloc (.map #[] 0)).heap.size = w3.heap.size + 2 := by simp
    have hmm := @run_makeMap Tryz.prog
    have htab2 := (Hhtab.out.below (hb3.mono (Nat.le_refl _)) (Nat.le_refl _)).below (hb4.mono (Nat.le_trans (Nat.le_refl _) (by omega : w1.heap.size ≤ w2.heap.size))) (Nat.le_refl _)
    generalize hw4 : (w3.alloc (.map #[] 0)).alloc (.map #[] 0) = w4 at *
    have htab4 := htab2.below (hb5.mono (by omega)) (Nat.le_refl _)
    have hso := soup_calls htab4
    have Hhk13 := Lib.hid hk13; clear hk13; have Hhk23 := Lib.hid hk23; clear hk23; have HhTw3 := Lib.hid hTw3; clear hTw3; have Hhlw3 := Lib.hid hlw3; clear hlw3; have Hhm1 := Lib.hid hm1; clear hm1; have Hhm2 := Lib.hid hm2; clear hm2; have Hhtab2 := Lib.hid htab2; clear htab2; have Hhtab4 := Lib.hid htab4; clear htab4; have Hhso := Lib.hid hso; clear hso
    go_wp2_with fail
    clear hw4 hmm
    refine Hhso.out.mono ?_
    rintro e w5 ⟨⟨v', rfl, hown⟩, hb6⟩
    obtain ⟨A5, cap5, rfl, hcap5⟩ := own_form hown
    have hz5 := hb6.size
    have hb7 := (hb5.mono (show w1.heap.size ≤ w3.heap.size by omega)).trans (hb6.mono (by omega))
    have hB1 : w1.heap.size ≤ w5.heap.size := by omega
    have hC0 : Ctr (w5.alloc (.cells #[.pointer (some t), .map (some w3.heap.size), .map (some (w3.heap.size + 1)), .int .i64 N, .slice A5 T.length cap5, .slice none 0 0] 106)) w1.heap.size w5.heap.size w3.heap.size (w3.heap.size + 1) (.pointer (some t)) N T (l.take 0) N (.slice A5 T.length cap5) (.slice none 0 0) T [] :=
      { blk := Bk.new w5 _ [_, _, _, _, _, _]
        tab := (Hhtab4.out.below (hb6.mono (by omega)) (Nat.le_refl _)).below ((Below.refl w5.heap.size w5).alloc (Nat.le_refl _) _ |>.mono hB1) (Nat.le_refl _)
        cuts := ⟨[], (Hhm1.out.below hb6 (by omega)).alloc _, fun e => by simp [Words.look]⟩
        ends := ⟨[], (Hhm2.out.below hb6 (by omega)).alloc _, fun v => by simp [Words.look, endsC]⟩
        sow := (own_low (by omega) hown).alloc _
        wow := World.ownsRow_nil _ _ _ _
        le := ⟨hB1, by omega, by omega⟩
        ne := by omega }
    have hb8 := hb7.alloc (by omega) (.cells #[.pointer (some t), .map (some w3.heap.size), .map (some (w3.heap.size + 1)), .int .i64 N, .slice A5 T.length cap5, .slice none 0 0] 106)
    generalize hw6 : w5.alloc (.cells #[.pointer (some t), .map (some w3.heap.size), .map (some (w3.heap.size + 1)), .int .i64 N, .slice A5 T.length cap5, .slice none 0 0] 106) = w6 at *
    have Hhown := Lib.hid hown; clear hown; have Hhb7 := Lib.hid hb7; clear hb7; have HhC0 := Lib.hid hC0; clear hC0
    go_wp2_with fail
    clear hw6
    go_loopw [45] (fun iv wq => ∃ k : Nat, k ≤ l.length ∧ iv = .int .i64 (k : Int) ∧ Ctr wq w1.heap.size w5.heap.size w3.heap.size (w3.heap.size + 1) (.pointer (some t)) N T (l.take k) N (.slice A5 T.length cap5) (.slice none 0 0) T [] ∧ (∀ i (h' : i < l.length), i < k → addC T (l.take i) l[i] = 0) ∧ Below w1.heap.size w3 wq) (fun iv _ => l.length - (intOf iv).toNat)
    case atStart => exact ⟨0, by omega, rfl, HhC0.out, fun _ _ h => absurd h (by omega), hb8⟩
    case round =>
      obtain ⟨k, hk, rfl, hC, hpre, hbr⟩ := hrel
      have hzr := hbr.size
      have hbelr := hbel3.trans (hbr.mono (by omega))
      have hkr := Hhk23.out.below hbr (by omega)
      have hlr := Hhlw3.out.below keeps_pair (hbr.mono (by omega))
      by_cases hkl : k < l.length
      · obtain ⟨b, o, rfl, hb, a1, a2⟩ := hlr.pair_at hkl
        have hbw : b < wr.heap.size := by omega
        have hr := Hhok.out _ (List.getElem_mem hkl)
        have htk := List.take_succ_eq_append_getElem hkl
        have hadd := fun wz (hz : Below wr.heap.size wr wz) => add_calls (hC.below hz) Hhs.out l[k] hr (by rw [List.length_take]; omega)
        have hfail : addC T (l.take k) l[k] ≠ 0 → AlongC N T l (addC T (l.take k) l[k]) := fun h9 => .inr (.inl ⟨Hhs.out, k, hkl, hpre, rfl, h9⟩)
        have hnext : addC T (l.take k) l[k] = 0 → ∀ i (h' : i < l.length), i < k + 1 → addC T (l.take i) l[i] = 0 := fun h9 i hi h8 => by
          by_cases h7 : i = k
          · subst h7; exact h9
          · exact hpre i hi (by omega)
        obtain ⟨ac, hac⟩ : ∃ ac, addC T (l.take k) l[k] = ac := ⟨_, rfl⟩
        unfold AddEnd at hadd
        rw [hac] at hfail hnext hadd
        generalize l[k] = ed at *
        obtain ⟨x1, x2⟩ := ed
        simp only [] at a1 a2
        have hbA := (Below.refl wr.heap.size wr).alloc (Nat.le_refl _) (.cells #[.int .i64 x1, .int .i64 x2] 39)
        have haddA := hadd _ hbA
        change Calls _ _ #[.pointer (some ⟨w5.heap.size, 0, none⟩), .agg #[.int .i64 x1, .int .i64 x2]] _ _ at haddA
        have hkA := Bk.new wr 39 [.int .i64 x1, .int .i64 x2]
        have g0 := hkA.cell 0
        have g1 := hkA.cell 1
        simp only [List.getElem?_cons_zero, List.getElem?_cons_succ] at g0 g1
        have HhC := Lib.hid hC; clear hC; have Hhpre := Lib.hid hpre; clear hpre; have Hhkr := Lib.hid hkr; clear hkr; have Hhlr := Lib.hid hlr; clear hlr; have Hhr := Lib.hid hr; clear hr; have Hhtk := Lib.hid htk; clear htk; have Hhadd := Lib.hid hadd; clear hadd; have Hhfail := Lib.hid hfail; clear hfail; have Hhnext := Lib.hid hnext; clear hnext; have HhaddA := Lib.hid haddA; clear haddA; have HhkA := Lib.hid hkA; clear hkA
        go_wp2_with fail
        refine HhaddA.out.mono ?_
        rintro e w7 ⟨rfl, hbl7, hC7⟩
        have hb9 := (hbr.alloc (by omega) (.cells #[.int .i64 x1, .int .i64 x2] 39)).trans hbl7
        have hz7 := hb9.size
        have hbelW := hbel3.trans (hb9.mono (by omega))
        have hkW := Hhk23.out.below hb9 (by omega)
        by_cases h0 : ac = 0
        · subst h0
          rw [if_pos rfl, ← Hhtk.out] at hC7
          have hn9 := Hhnext.out rfl
          have HhC7 := Lib.hid hC7; clear hC7; have Hhn9 := Lib.hid hn9; clear hn9; have HhbelW := Lib.hid hbelW; clear hbelW; have HhkW := Lib.hid hkW; clear hkW; have Hhb9 := Lib.hid hb9; clear hb9; have Hhbl7 := Lib.hid hbl7; clear hbl7
          go_wp2_with fail
          exact ⟨⟨k + 1, by omega, by simp, HhC7.out, Hhn9.out, Hhb9.out⟩, by simp [intOf]; omega⟩
        · have hfl := fail_calls ac w7
          have hres := Hhfail.out h0
          have hne9 : (ac == 0) = false := by simpa using h0
          have HhC7 := Lib.hid hC7; clear hC7; have HhbelW := Lib.hid hbelW; clear hbelW; have HhkW := Lib.hid hkW; clear hkW; have Hhb9 := Lib.hid hb9; clear hb9; have Hhbl7 := Lib.hid hbl7; clear hbl7; have Hhfl := Lib.hid hfl; clear hfl; have Hhres := Lib.hid hres; clear hres
          go_wp2_with fail
          refine Hhfl.out.mono ?_
          rintro e wf ⟨rfl, hbf⟩
          have hkf := HhkW.out.below hbf HhkW.out.lt
          have hbelf := HhbelW.out.trans (hbf.mono HhbelW.out.size)
          have zf0 := hkf.frozen 0
          have zf1 := hkf.frozen 1
          have zc0 := hkf.cell 0
          have zc1 := hkf.cell 1
          simp only [List.getElem?_cons_zero, List.getElem?_cons_succ] at zc0 zc1
          have hkf2 := (hkf.set 0 (.int .i64 0)).set 1 (.slice none 0 0)
          have hbf2 := (hbelf.setCell (p := ⟨w.heap.size + 1, 0, none⟩) (by simp) (.int .i64 0)).setCell (p := ⟨w.heap.size + 1, 1, none⟩) (by simp) (.slice none 0 0)
          have Hhkf := Lib.hid hkf; clear hkf; have Hhbelf := Lib.hid hbelf; clear hbelf; have Hhkf2 := Lib.hid hkf2; clear hkf2; have Hhbf2 := Lib.hid hbf2; clear hbf2
          go_wp2_with fail
          exact ret_cttt rfl rfl Hhkf2.out Tryz.underlying24 rfl (by kernel_rfl) rfl ⟨⟨_, ac, rfl, Hhres.out, fun _ => rfl, fun h9 => absurd h9 h0⟩, Hhbf2.out⟩
      · obtain rfl : k = l.length := by omega
        rw [List.take_length] at hC
        have hcl : Mesh.Clean T l := fun i hi => hpre i hi hi
        have hgd := clean_good hcl
        have hci := contains_idle hC Hhs.out hlr (by omega) Hhok.out (by omega)
        obtain ⟨an, han⟩ : ∃ an, l.any (idleE N T l) = an := ⟨_, rfl⟩
        rw [han] at hci
        have HhC := Lib.hid hC; clear hC; have Hhpre := Lib.hid hpre; clear hpre; have Hhkr := Lib.hid hkr; clear hkr; have Hhlr := Lib.hid hlr; clear hlr; have Hhcl := Lib.hid hcl; clear hcl; have Hhgd := Lib.hid hgd; clear hgd; have Hhci := Lib.hid hci; clear hci; have Hhan := Lib.hid han; clear han
        go_wp2_with fail
        refine Hhci.out.mono ?_
        rintro e w7 ⟨rfl, hb9⟩
        have hz7 := hb9.size
        have hb10 := hbr.trans (hb9.mono (by omega))
        have hbel7 := hbelr.trans (hb9.mono (by omega))
        have hk7 := Hhkr.out.below hb9 (by omega)
        have hC7 := HhC.out.below hb9
        have hl7 := Hhlr.out.below keeps_pair (hb9.mono (by omega))
        cases an with
        | true =>
          have hfl := fail_calls 14 w7
          have hbelW := hbel7
          have hkW := hk7
          have hres : AlongC N T l 14 := .inr (.inr ⟨Hhs.out, Hhcl.out, .inl ⟨Hhan.out, rfl⟩⟩)
          have HhC7 := Lib.hid hC7; clear hC7; have HhbelW := Lib.hid hbelW; clear hbelW; have HhkW := Lib.hid hkW; clear hkW; have Hhb9 := Lib.hid hb9; clear hb9; have Hhb10 := Lib.hid hb10; clear hb10; have Hhfl := Lib.hid hfl; clear hfl; have Hhres := Lib.hid hres; clear hres; have Hhk7 := Lib.hid hk7; clear hk7; have Hhl7 := Lib.hid hl7; clear hl7
          go_wp2_with fail
          refine Hhfl.out.mono ?_
          rintro e wf ⟨rfl, hbf⟩
          have hkf := HhkW.out.below hbf HhkW.out.lt
          have hbelf := HhbelW.out.trans (hbf.mono HhbelW.out.size)
          have zf0 := hkf.frozen 0
          have zf1 := hkf.frozen 1
          have zc0 := hkf.cell 0
          have zc1 := hkf.cell 1
          simp only [List.getElem?_cons_zero, List.getElem?_cons_succ] at zc0 zc1
          have hkf2 := (hkf.set 0 (.int .i64 0)).set 1 (.slice none 0 0)
          have hbf2 := (hbelf.setCell (p := ⟨w.heap.size + 1, 0, none⟩) (by simp) (.int .i64 0)).setCell (p := ⟨w.heap.size + 1, 1, none⟩) (by simp) (.slice none 0 0)
          have Hhkf := Lib.hid hkf; clear hkf; have Hhbelf := Lib.hid hbelf; clear hbelf; have Hhkf2 := Lib.hid hkf2; clear hkf2; have Hhbf2 := Lib.hid hbf2; clear hbf2
          go_wp2_with fail
          exact ret_cttt rfl rfl Hhkf2.out Tryz.underlying24 rfl (by kernel_rfl) rfl ⟨⟨_, 14, rfl, Hhres.out, fun _ => rfl, fun h9 => absurd h9 (by decide)⟩, Hhbf2.out⟩
        | false =>
          have hpa := part_calls hC7 Hhs.out Hhgd.out hll
          have HhC7 := Lib.hid hC7; clear hC7; have Hhb9 := Lib.hid hb9; clear hb9; have Hhb10 := Lib.hid hb10; clear hb10; have Hhk7 := Lib.hid hk7; clear hk7; have Hhl7 := Lib.hid hl7; clear hl7; have Hhpa := Lib.hid hpa; clear hpa; have Hhbel7 := Lib.hid hbel7; clear hbel7
          go_wp2_with fail
          refine Hhpa.out.mono ?_
          rintro e w8 ⟨rfl, ⟨wv8, hC8⟩, hb11⟩
          have hz8 := hb11.size
          have hb12 := Hhb10.out.trans hb11
          have hbel8 := hbel3.trans (hb12.mono (by omega))
          have hk8 := Hhk23.out.below hb12 (by omega)
          have hk8s := Hhk13.out.below hb12 (by omega)
          have hTw8 := HhTw3.out.below keeps_tri (hb12.mono (by omega))
          have e3 : w8.cell? ⟨w5.heap.size, 3, none⟩ = some (.int .i64 ((newO N T (l.map nm)).length : Nat)) := hC8.blk.cell 3
          have hNl : (newO N T (l.map nm)).length ≤ 40000 := by
            rw [newO_eq, outO_len]
            have := exH_few (T := T) (C := l.map nm) N.toNat
            have := Hhs.out.tmax
            have := Hhs.out.nmax
            omega
          have hgl8 := hC8.blk.lt
          obtain ⟨M, hM⟩ : ∃ M, (newO N T (l.map nm)).length = M := ⟨_, rfl⟩
          rw [hM] at e3 hNl hC8
          by_cases hfull : 4096 < M
          · have hfl := fail_calls 7 w8
            have hbelW := hbel8
            have hkW := hk8
            have hres : AlongC N T l 7 := .inr (.inr ⟨Hhs.out, Hhcl.out, .inr (.inl ⟨Hhan.out, by omega, rfl⟩)⟩)
            have HhC8 := Lib.hid hC8; clear hC8; have HhbelW := Lib.hid hbelW; clear hbelW; have HhkW := Lib.hid hkW; clear hkW; have Hhb11 := Lib.hid hb11; clear hb11; have Hhb12 := Lib.hid hb12; clear hb12; have Hhfl := Lib.hid hfl; clear hfl; have Hhres := Lib.hid hres; clear hres; have Hhk8 := Lib.hid hk8; clear hk8; have Hhk8s := Lib.hid hk8s; clear hk8s; have HhTw8 := Lib.hid hTw8; clear hTw8; have HhM := Lib.hid hM; clear hM
            go_wp2_with fail
            refine Hhfl.out.mono ?_
            rintro e wf ⟨rfl, hbf⟩
            have hkf := HhkW.out.below hbf HhkW.out.lt
            have hbelf := HhbelW.out.trans (hbf.mono HhbelW.out.size)
            have zf0 := hkf.frozen 0
            have zf1 := hkf.frozen 1
            have zc0 := hkf.cell 0
            have zc1 := hkf.cell 1
            simp only [List.getElem?_cons_zero, List.getElem?_cons_succ] at zc0 zc1
            have hkf2 := (hkf.set 0 (.int .i64 0)).set 1 (.slice none 0 0)
            have hbf2 := (hbelf.setCell (p := ⟨w.heap.size + 1, 0, none⟩) (by simp) (.int .i64 0)).setCell (p := ⟨w.heap.size + 1, 1, none⟩) (by simp) (.slice none 0 0)
            have Hhkf := Lib.hid hkf; clear hkf; have Hhbelf := Lib.hid hbelf; clear hbelf; have Hhkf2 := Lib.hid hkf2; clear hkf2; have Hhbf2 := Lib.hid hbf2; clear hbf2
            go_wp2_with fail
            exact ret_cttt rfl rfl Hhkf2.out Tryz.underlying24 rfl (by kernel_rfl) rfl ⟨⟨_, 7, rfl, Hhres.out, fun _ => rfl, fun h9 => absurd h9 (by decide)⟩, Hhbf2.out⟩
          · have hres : AlongC N T l 0 := .inr (.inr ⟨Hhs.out, Hhcl.out, .inr (.inr ⟨Hhan.out, by omega, rfl⟩)⟩)
            have hed := edges_calls hTw8 (by omega) Hhs.out
            have g0 : w8.cell? ⟨w.heap.size, 0, none⟩ = some (.int .i64 N) := hk8s.cell 0
            have g1 : w8.cell? ⟨w.heap.size, 1, none⟩ = some (.slice A T.length cap) := hk8s.cell 1
            have HhC8 := Lib.hid hC8; clear hC8; have Hhb11 := Lib.hid hb11; clear hb11; have Hhb12 := Lib.hid hb12; clear hb12; have Hhres := Lib.hid hres; clear hres; have Hhk8 := Lib.hid hk8; clear hk8; have Hhk8s := Lib.hid hk8s; clear hk8s; have HhTw8 := Lib.hid hTw8; clear hTw8; have HhM := Lib.hid hM; clear hM; have Hhed := Lib.hid hed; clear hed
            go_wp2_with fail
            refine Hhed.out.mono ?_
            rintro e w9 ⟨⟨r, Es, rfl, hEs, hownE⟩, hb13⟩
            have hz9 := hb13.size
            have hEl := edges_few hEs
            have hTm := Hhs.out.tmax
            obtain ⟨A9, cap9, rfl, hcap9⟩ := own_form hownE
            have hslE : Sl 2 RPair w9 w9.heap.size (.slice A9 Es.length cap9) Es := Sl.of_own hownE fun i a hi => flat2_at Es i a hi
            have HhEs := Lib.hid hEs; clear hEs; have HhownE := Lib.hid hownE; clear hownE; have HhslE := Lib.hid hslE; clear hslE
            go_wp2_with fail
            go_loopw [15, 89] (fun pv iv wq => ∃ k : Nat, k ≤ Es.length ∧ iv = .int .i64 (k : Int) ∧ wq.ownsRow w9.heap.size 41 4 pv (pairsL N T l (Es.take k)).length (quad (pairsL N T l (Es.take k))) ∧ Below w9.heap.size w9 wq) (fun _ iv _ => Es.length - (intOf iv).toNat)
            case atStart => exact ⟨0, by omega, rfl, World.ownsRow_nil _ _ _ _, Below.refl _ _⟩
            case round =>
              obtain ⟨k, hk, rfl, hown, hbr9⟩ := hrel
              obtain ⟨wz, hwz⟩ : ∃ wz, wz = wr := ⟨_, rfl⟩
              subst hwz
              have hzz := hbr9.size
              have hCz := (HhC8.out.below hb13).below (hbr9.mono (by omega))
              by_cases hkl : k < Es.length
              · obtain ⟨b, o, rfl, hb, a1, a2⟩ := (HhslE.out.below keeps_pair hbr9).pair_at hkl
                have hbw : b < wz.heap.size := by omega
                have hst := pairs_step (N := N) (T := T) (l := l) hkl
                obtain ⟨ce, hce, hee⟩ := (HhEs.out.2 _).1 (List.getElem_mem hkl)
                have hr : ok2 Es[k] := by
                  rw [hee]
                  have q1 := Hhs.out.rng _ hce
                  have q2 := Hhs.out.rng _ (nx_lt hce)
                  have := Hhs.out.nmax
                  unfold ok2 I64 ek
                  simp only []
                  omega
                have hgc := fun (h9 : Es[k] ∈ l.map nm) => good_cut Hhgd.out (e := Es[k]) h9
                obtain ⟨SC, hS1, hS2⟩ := hCz.cuts
                have hSk := hS2 Es[k]
                generalize Es[k] = ed at *
                obtain ⟨x1, x2⟩ := ed
                simp only [] at a1 a2 hgc
                obtain ⟨yes, hyes⟩ : ∃ yes, (Words.look SC (x1, x2)).isSome = yes := ⟨_, rfl⟩
                rw [hyes] at hSk
                have hbA := (Below.refl wz.heap.size wz).alloc (Nat.le_refl _) (.cells #[.int .i64 x1, .int .i64 x2] 39)
                have hkA := Bk.new wz 39 [.int .i64 x1, .int .i64 x2]
                obtain ⟨wA, hwA⟩ : ∃ wA, wA = wz.alloc (.cells #[.int .i64 x1, .int .i64 x2] 39) := ⟨_, rfl⟩
                rw [← hwA] at hbA
                have hkA : Bk wA wz.heap.size 39 [.int .i64 x1, .int .i64 x2] := by rw [hwA]; exact hkA
                have hzA : wA.heap.size = wz.heap.size + 1 := by rw [hwA]; simp
                have hCA := hCz.below hbA
                have hSA := hS1.below hbA hS1.lt
                have hownA := own_below hown hbA (Nat.le_refl _)
                have g0 := hkA.cell 0
                have g1 := hkA.cell 1
                simp only [List.getElem?_cons_zero, List.getElem?_cons_succ] at g0 g1
                have m1 : wA.cell? ⟨w5.heap.size, 1, none⟩ = some (.map (some w3.heap.size)) := hCA.blk.cell 1
                have hgA := hCA.blk.lt
                have HhCz := Lib.hid hCz; clear hCz; have Hhown := Lib.hid hown; clear hown; have Hhst := Lib.hid hst; clear hst; have Hhr := Lib.hid hr; clear hr; have Hhgc := Lib.hid hgc; clear hgc; have HhS1 := Lib.hid hS1; clear hS1; have HhS2 := Lib.hid hS2; clear hS2; have HhSk := Lib.hid hSk; clear hSk; have HhbA := Lib.hid hbA; clear hbA; have HhkA := Lib.hid hkA; clear hkA; have HhCA := Lib.hid hCA; clear hCA; have HhSA := Lib.hid hSA; clear hSA; have HhownA := Lib.hid hownA; clear hownA
                go_wp2_with fail
                rw [← hwA]
                clear hwA
                refine Go.Canon.wp_region_tree [4] (fun b' => b' = wz.heap.size) (.seg [0,4] (.alt 1 (.seg [2,3] (.alt 5 .fin .no)) .no)) mixed (by kernel_rfl) ?_
                refine Go.Canon.tr_seg ?_
                simp only [List.map_cons, List.map_nil, List.getD_cons_zero, List.getD_cons_succ]
                go_wp2_with fail
                refine Go.Canon.tr_to (Go.Canon.tr_one ?_)
                simp only [List.getD_cons_zero, List.getD_cons_succ]
                go_wp2_with fail
                refine Go.Canon.tr_end (fun _ _ => rfl) (Go.Canon.tr_seg ?_)
                simp only [List.map_cons, List.map_nil, List.getD_cons_zero, List.getD_cons_succ]
                go_wp2_with fail
                refine Go.Canon.tr_to (Go.Canon.tr_one ?_)
                simp only [List.getD_cons_zero, List.getD_cons_succ]
                refine wpList_look _ rfl _ _ 103 rfl 39 4 keyE Tryz.underlying103 zero_bool w3.heap.size SC rfl HhSA.out.drew (x1, x2) rfl Hhr.out ?_
                rw [look_yes, hyes]
                go_wp2_with fail
                refine Go.Canon.tr_end (fun _ _ => rfl) (Go.Canon.tr_fin (by rfl) (List.forall_mem_cons.2 ⟨.inl ⟨_, rfl, rfl, by rw [World.cell?_drew, g0]; rfl⟩, fun _ h => by cases h⟩) ?_)
                cases yes with
                | false =>
                  have hn9 : ¬ (x1, x2) ∈ l.map nm := fun h9 => by have := HhSk.out.2 h9; cases this
                  have hst9 := Hhst.out
                  rw [if_neg hn9] at hst9
                  have hb14 := hbr9.trans (HhbA.out.mono (by omega))
                  have Hhst9 := Lib.hid hst9; clear hst9; have Hhn9 := Lib.hid hn9; clear hn9; have Hhb14 := Lib.hid hb14; clear hb14
                  go_wp2_with fail
                  exact ⟨⟨k + 1, by omega, by simp, by rw [Hhst9.out]; exact own_drew HhownA.out, Hhb14.out.drew⟩, by simp [intOf]; omega⟩
                | true =>
                  have hin : (x1, x2) ∈ l.map nm := HhSk.out.1 rfl
                  have hst9 := Hhst.out
                  rw [if_pos hin] at hst9
                  obtain ⟨⟨fc, hfc⟩, fd, hfd⟩ := Hhgc.out hin
                  have hfcl := (facing_some hfc).1
                  have hfdl := (facing_some hfd).1
                  have hpe : pairE T (newX N T (l.map nm)) (x1, x2) = (eg (newX N T (l.map nm)) fc, eg (newX N T (l.map nm)) fd) := by unfold pairE; rw [hfc, hfd]; rfl
                  rw [hpe] at hst9
                  have hXl : (newX N T (l.map nm)).length = T.length := relab_len _ _
                  obtain ⟨wB, hwB⟩ : ∃ wB, wB = wA.drew := ⟨_, rfl⟩
                  have hCB := HhCA.out.below (Below.refl wA.heap.size wA).drew
                  have hkB := HhkA.out.drew
                  have hownB := own_drew HhownA.out
                  have hb14 := (hbr9.trans (HhbA.out.mono (by omega))).drew
                  have hzB : wA.drew.heap.size = wz.heap.size + 1 := hzA
                  rw [← hwB] at hCB hkB hownB hb14 hzB ⊢
                  clear hwB
                  have hf1 := fun wx (hx : Below wB.heap.size wB wx) => facing_calls (hCB.below hx).tab x1 x2 Hhr.out.1 Hhr.out.2
                  have hf2 := fun wx (hx : Below wB.heap.size wB wx) => facing_calls (hCB.below hx).tab x2 x1 Hhr.out.2 Hhr.out.1
                  have hn1 := fun wx (hx : Below wB.heap.size wB wx) => now_calls (hCB.below hx) (c := fc) (by rw [hXl]; exact hfcl) (by rw [hXl]; exact hTm)
                  have hn2 := fun wx (hx : Below wB.heap.size wB wx) => now_calls (hCB.below hx) (c := fd) (by rw [hXl]; exact hfdl) (by rw [hXl]; exact hTm)
                  rw [hfc] at hf1
                  rw [hfd] at hf2
                  generalize eg (newX N T (l.map nm)) fc = E1 at *
                  generalize eg (newX N T (l.map nm)) fd = E2 at *
                  obtain ⟨p1, p2⟩ := E1
                  obtain ⟨q1, q2⟩ := E2
                  change ∀ wx, Below wB.heap.size wB wx → Calls _ _ #[_, .int .i64 (fc : Int)] wx (fun r w' => r = .returned (.agg #[.int .i64 p1, .int .i64 p2]) ∧ _) at hn1
                  change ∀ wx, Below wB.heap.size wB wx → Calls _ _ #[_, .int .i64 (fd : Int)] wx (fun r w' => r = .returned (.agg #[.int .i64 q1, .int .i64 q2]) ∧ _) at hn2
                  change ∀ wx, Below wB.heap.size wB wx → Calls _ _ _ wx (fun r w' => r = .returned (.int .i64 (fc : Int)) ∧ _) at hf1
                  change ∀ wx, Below wB.heap.size wB wx → Calls _ _ _ wx (fun r w' => r = .returned (.int .i64 (fd : Int)) ∧ _) at hf2
                  have y0 : wB.cell? ⟨wz.heap.size, 0, none⟩ = some (.int .i64 x1) := hkB.cell 0
                  have y1 : wB.cell? ⟨wz.heap.size, 1, none⟩ = some (.int .i64 x2) := hkB.cell 1
                  have hcal := hf1 wB.drew (Below.refl wB.heap.size wB).drew
                  have Hhst9 := Lib.hid hst9; clear hst9; have Hhin := Lib.hid hin; clear hin; have HhCB := Lib.hid hCB; clear hCB; have HhkB := Lib.hid hkB; clear hkB; have HhownB := Lib.hid hownB; clear hownB; have Hhb14 := Lib.hid hb14; clear hb14; have Hhf1 := Lib.hid hf1; clear hf1; have Hhf2 := Lib.hid hf2; clear hf2; have Hhn1 := Lib.hid hn1; clear hn1; have Hhn2 := Lib.hid hn2; clear hn2; have Hhpe := Lib.hid hpe; clear hpe; have Hhfc := Lib.hid hfc; clear hfc; have Hhfd := Lib.hid hfd; clear hfd; have Hhcal := Lib.hid hcal; clear hcal
                  go_wp2_with fail
                  refine Go.Canon.wp_region_tree [9, 11] (fun b' => b' = wz.heap.size) (.seg [0,1,2,3,6,7,8,9,10,11,12] (.alt 4 (.alt 5 (.alt 13 (.alt 14 (.seg [15] (.alt 16 (.alt 17 (.seg [18] .fin) .no) .no)) .no) .no) .no) .no)) mixed (by kernel_rfl) ?_
                  refine Go.Canon.tr_seg ?_
                  simp only [List.map_cons, List.map_nil, List.getD_cons_zero, List.getD_cons_succ]
                  go_wp2_with fail
                  refine Go.Canon.tr_to (Go.Canon.tr_one ?_)
                  simp only [List.getD_cons_zero, List.getD_cons_succ]
                  go_wp2_with fail
                  refine Hhcal.out.mono ?_
                  rintro e w10 ⟨rfl, hb10⟩
                  have hc10 := (Below.refl wB.heap.size wB).drew.trans hb10
                  have hcal2 := Hhn1.out w10 hc10
                  have Hhb10 := Lib.hid hb10; clear hb10; have Hhc10 := Lib.hid hc10; clear hc10; have Hhcal2 := Lib.hid hcal2; clear hcal2
                  go_wp2_with fail
                  refine Go.Canon.tr_end (fun b' h9 => by subst h9; exact Hhb10.out.block wz.heap.size (by show wz.heap.size < wB.heap.size; omega)) (Go.Canon.tr_one ?_)
                  simp only [List.getD_cons_zero, List.getD_cons_succ]
                  go_wp2_with fail
                  refine Hhcal2.out.mono ?_
                  rintro e w11 ⟨rfl, hb11'⟩
                  have hc11 := Hhc10.out.trans (hb11'.mono Hhc10.out.size)
                  have hcal3 := Hhf2.out w11 hc11
                  have hd11 : Below wB.heap.size wB.drew w11 := Hhb10.out.trans (hb11'.mono Hhc10.out.size)
                  have Hhb11' := Lib.hid hb11'; clear hb11'; have Hhc11 := Lib.hid hc11; clear hc11; have Hhcal3 := Lib.hid hcal3; clear hcal3; have Hhd11 := Lib.hid hd11; clear hd11
                  go_wp2_with fail
                  refine Go.Canon.tr_end (fun b' h9 => by subst h9; exact Hhd11.out.block wz.heap.size (by omega)) (Go.Canon.tr_one ?_)
                  simp only [List.getD_cons_zero, List.getD_cons_succ]
                  go_wp2_with fail
                  refine Hhcal3.out.mono ?_
                  rintro e w12 ⟨rfl, hb12'⟩
                  have hc12 := Hhc11.out.trans (hb12'.mono Hhc11.out.size)
                  have hcal4 := Hhn2.out w12 hc12
                  have hd12 : Below wB.heap.size wB.drew w12 := Hhd11.out.trans (hb12'.mono Hhc11.out.size)
                  have Hhb12' := Lib.hid hb12'; clear hb12'; have Hhc12 := Lib.hid hc12; clear hc12; have Hhcal4 := Lib.hid hcal4; clear hcal4; have Hhd12 := Lib.hid hd12; clear hd12
                  go_wp2_with fail
                  refine Go.Canon.tr_end (fun b' h9 => by subst h9; exact Hhd12.out.block wz.heap.size (by omega)) (Go.Canon.tr_one ?_)
                  simp only [List.getD_cons_zero, List.getD_cons_succ]
                  go_wp2_with fail
                  refine Hhcal4.out.mono ?_
                  rintro e w13 ⟨rfl, hb13'⟩
                  have hc13 := Hhc12.out.trans (hb13'.mono Hhc12.out.size)
                  have hd13 : Below wB.heap.size wB.drew w13 := Hhd12.out.trans (hb13'.mono Hhc12.out.size)
                  have Hhb13' := Lib.hid hb13'; clear hb13'; have Hhc13 := Lib.hid hc13; clear hc13; have Hhd13 := Lib.hid hd13; clear hd13
                  go_wp2_with fail
                  refine Go.Canon.tr_end (fun b' h9 => by subst h9; exact Hhd13.out.block wz.heap.size (by omega)) (Go.Canon.tr_seg ?_)
                  simp only [List.map_cons, List.map_nil, List.getD_cons_zero, List.getD_cons_succ]
                  go_wp2_with fail
                  refine Go.Canon.tr_to (Go.Canon.tr_one ?_)
                  simp only [List.getD_cons_zero, List.getD_cons_succ]
                  go_wp2_with fail
                  have ha13 : Below wB.heap.size wB.drew (w13.alloc (.cells #[.int .i64 p1, .int .i64 p2, .int .i64 q1, .int .i64 q2] 41)) := Hhd13.out.alloc Hhc13.out.size _
                  have Hha13 := Lib.hid ha13; clear ha13
                  refine Go.Canon.tr_end (fun b' h9 => by subst h9; exact Hha13.out.block wz.heap.size (by omega)) (Go.Canon.tr_one ?_)
                  simp only [List.getD_cons_zero, List.getD_cons_succ]
                  have hown13 := own_below HhownB.out Hhc13.out (Nat.le_refl _)
                  have hk13' := (HhkB.out.below Hhc13.out (by omega)).alloc (.cells #[.int .i64 p1, .int .i64 p2, .int .i64 q1, .int .i64 q2] 41)
                  have hownA13 := hown13.alloc (.cells #[.int .i64 p1, .int .i64 p2, .int .i64 q1, .int .i64 q2] 41)
                  have hPl : (pairsL N T l (Es.take k)).length ≤ 100000 := by
                    unfold pairsL
                    rw [List.length_map]
                    have := List.length_filter_le (fun e => decide (e ∈ l.map nm)) (Es.take k)
                    rw [List.length_take] at this
                    omega
                  have hz13 := Hhc13.out.size
                  have hz14 := Hhb14.out.size
                  refine append_block _ rfl (.tmp 99) (.tmp 115) 29 rfl w9.heap.size infoPr Tryz.underlying29 rfl (by decide) _ _ _ rfl hownA13 w13.heap.size [.int .i64 p1, .int .i64 p2, .int .i64 q1, .int .i64 q2] rfl (Bk.new _ _ _) rfl (by simp [Value.oneCell']) (by omega) (by omega) (by simp; omega) ?_
                  intro v' wE hownE' hbE hgE _
                  obtain ⟨gv, cv, rfl⟩ := ownsRow_succ hownE'
                  have hkeep : wE.heap[wz.heap.size]? = wB.drew.heap[wz.heap.size]? := (hgE.block wz.heap.size (by simp; omega) (fun e9 => by
                    rcases own_bk hownA13 hk13' (by decide) with h9 | h9
                    · exact absurd (e9.trans h9) (by simp)
                    · exact h9 e9.symm)).trans (Hha13.out.block wz.heap.size (by omega))
                  have hbF := ((Hhb14.out.trans (Hhc13.out.mono (by omega))).alloc (by omega) (.cells #[.int .i64 p1, .int .i64 p2, .int .i64 q1, .int .i64 q2] 41)).trans hbE
                  have hownF : wE.ownsRow w9.heap.size 41 4 (.slice (some ⟨gv, 0, none⟩) ((pairsL N T l (Es.take k)).length + 1) cv) (pairsL N T l (Es.take (k + 1))).length (quad (pairsL N T l (Es.take (k + 1)))) := by
                    rw [Hhst9.out, List.length_append, quad_snoc]
                    exact hownE'
                  have Hhown13 := Lib.hid hown13; clear hown13; have Hhk13' := Lib.hid hk13'; clear hk13'; have HhownA13 := Lib.hid hownA13; clear hownA13; have HhPl := Lib.hid hPl; clear hPl; have HhownE' := Lib.hid hownE'; clear hownE'; have HhbE := Lib.hid hbE; clear hbE; have HhgE := Lib.hid hgE; clear hgE; have Hhkeep := Lib.hid hkeep; clear hkeep; have HhbF := Lib.hid hbF; clear hbF; have HhownF := Lib.hid hownF; clear hownF
                  go_wp2_with fail
                  refine Go.Canon.tr_end (fun b' h9 => by subst h9; exact Hhkeep.out) (Go.Canon.tr_seg ?_)
                  simp only [List.map_cons, List.map_nil, List.getD_cons_zero, List.getD_cons_succ]
                  go_wp2_with fail
                  refine Go.Canon.tr_to (Go.Canon.tr_fin (by rfl) (List.forall_mem_cons.2 ⟨.inl ⟨_, rfl, rfl, by rw [World.cell?_drew, y1]; rfl⟩, List.forall_mem_cons.2 ⟨.inl ⟨_, rfl, rfl, by rw [World.cell?_drew, y0]; rfl⟩, fun _ h => by cases h⟩⟩) ?_)
                  go_wp2_with fail
                  exact ⟨⟨k + 1, by omega, by simp, HhownF.out, HhbF.out⟩, by simp [intOf]; omega⟩
              · obtain rfl : k = Es.length := by omega
                rw [List.take_length] at hown
                have hkz := (Hhk8.out.below hb13 (by omega)).below (hbr9.mono (by omega)) (by omega)
                have hbz := hbel8.trans ((hb13.mono (by omega)).trans (hbr9.mono (by omega)))
                obtain ⟨AW, capW, hwvW, hcapW⟩ := own_form hCz.wow
                subst hwvW
                obtain ⟨AP, capP, hpvP, hcapP⟩ := own_form hown
                subst hpvP
                have f3 : wz.cell? ⟨w5.heap.size, 3, none⟩ = some (.int .i64 (M : Nat)) := hCz.blk.cell 3
                have f4 := hCz.blk.cell 4
                have f5 := hCz.blk.cell 5
                have z0 := hkz.frozen 0
                have z1 := hkz.frozen 1
                have zc0 := hkz.cell 0
                have zc1 := hkz.cell 1
                simp only [List.getElem?_cons_zero, List.getElem?_cons_succ] at zc0 zc1
                have hgz := hCz.blk.lt
                simp only [List.getElem?_cons_succ, List.getElem?_cons_zero] at f4 f5
                have hkR := (hkz.set 0 (.int .i64 (M : Nat))).set 1 (.slice A5 T.length cap5)
                have Hhkz := Lib.hid hkz; clear hkz; have Hhbz := Lib.hid hbz; clear hbz; have HhCz := Lib.hid hCz; clear hCz; have Hhown := Lib.hid hown; clear hown; have HhkR := Lib.hid hkR; clear hkR
                go_wp2_with fail
                refine Go.Canon.wp_region_tree [3, 7] (fun b' => b' = w5.heap.size) (.seg [0,4,8] (.alt 1 (.seg [2,3] (.alt 5 (.seg [6,7] (.alt 9 (.seg [10,11,12] .fin) .no)) (.alt 9 (.alt 5 (.seg [6,7,10,11,12] .fin) .no) .no))) (.alt 5 (.seg [6,7] (.alt 1 (.seg [2,3] (.alt 9 (.seg [10,11,12] .fin) .no)) .no)) .no))) mixed (by kernel_rfl) ?_
                have hw51 : w5.heap.size ≠ w.heap.size + 1 := by omega
                refine Go.Canon.tr_seg ?_
                simp only [List.map_cons, List.map_nil, List.getD_cons_zero, List.getD_cons_succ]
                go_wp2_with fail
                refine Go.Canon.tr_to (Go.Canon.tr_alt ?_ (Go.Canon.tr_one ?_))
                · simp only [List.getD_cons_zero, List.getD_cons_succ]
                  go_wp2_with fail
                  refine Go.Canon.tr_end (fun _ _ => rfl) (Go.Canon.tr_seg ?_)
                  simp only [List.map_cons, List.map_nil, List.getD_cons_zero, List.getD_cons_succ]
                  go_wp2_with fail
                  refine Go.Canon.tr_to (Go.Canon.tr_alt ?_ (Go.Canon.tr_one ?_))
                  · simp only [List.getD_cons_zero, List.getD_cons_succ]
                    go_wp2_with fail
                    refine Go.Canon.tr_end (fun _ _ => rfl) (Go.Canon.tr_seg ?_)
                    simp only [List.map_cons, List.map_nil, List.getD_cons_zero, List.getD_cons_succ]
                    go_wp2_with fail
                    refine Go.Canon.tr_to (Go.Canon.tr_one ?_)
                    simp only [List.getD_cons_zero, List.getD_cons_succ]
                    go_wp2_with fail
                    refine Go.Canon.tr_end (fun b' h9 => by subst h9; exact ((Below.heap_setCell _ ⟨w.heap.size + 1, 1, none⟩ _ w5.heap.size (by show w5.heap.size ≠ w.heap.size + 1; omega)).trans (Below.heap_setCell _ ⟨w.heap.size + 1, 0, none⟩ _ w5.heap.size (by show w5.heap.size ≠ w.heap.size + 1; omega)))) (Go.Canon.tr_seg ?_)
                    simp only [List.map_cons, List.map_nil, List.getD_cons_zero, List.getD_cons_succ]
                    go_wp2_with fail
                    refine Go.Canon.tr_to (Go.Canon.tr_fin (by rfl) (List.forall_mem_cons.2 ⟨.inl ⟨_, rfl, rfl, by rw [World.cell?_drew, f3]; rfl⟩, List.forall_mem_cons.2 ⟨.inl ⟨_, rfl, rfl, by rw [World.cell?_drew, f5]; rfl⟩, fun _ h => by cases h⟩⟩) ?_)
                    go_wp2_with fail
                    have hkR2 := ((Hhkz.out.set 0 (.int .i64 (M : Nat))).set 1 (.slice A5 T.length cap5)).drew
                    have hbzR := ((Hhbz.out.setCell (p := ⟨w.heap.size + 1, 0, none⟩) (by simp) (.int .i64 (M : Nat))).setCell (p := ⟨w.heap.size + 1, 1, none⟩) (by simp) (.slice A5 T.length cap5)).drew
                    have hfar : ∀ j, j ≠ w.heap.size + 1 → ((wz.setCell ⟨w.heap.size + 1, 0, none⟩ (.int .i64 (M : Nat))).setCell ⟨w.heap.size + 1, 1, none⟩ (.slice A5 T.length cap5)).drew.heap[j]? = wz.heap[j]? := fun j hj => (Below.heap_setCell _ ⟨w.heap.size + 1, 1, none⟩ _ j hj).trans (Below.heap_setCell _ ⟨w.heap.size + 1, 0, none⟩ _ j hj)
                    have hall := along_fin HhCz.out Hhown.out (by omega) (by omega) hfar
                    refine ret_cttt rfl rfl hkR2 Tryz.underlying24 rfl (by kernel_rfl) rfl ⟨⟨_, 0, rfl, Hhres.out, fun h9 => absurd rfl h9, fun _ => ⟨.slice A5 T.length cap5, _, _, Es, ?_, hall.1, hall.2.1, HhEs.out, hall.2.2⟩⟩, hbzR⟩
                    rw [HhM.out]
                    rfl
                  · simp only [List.getD_cons_zero, List.getD_cons_succ]
                    go_wp2_with fail
                    refine Go.Canon.tr_end (fun b' h9 => by subst h9; exact ((Below.heap_setCell _ ⟨w.heap.size + 1, 1, none⟩ _ w5.heap.size (by show w5.heap.size ≠ w.heap.size + 1; omega)).trans (Below.heap_setCell _ ⟨w.heap.size + 1, 0, none⟩ _ w5.heap.size (by show w5.heap.size ≠ w.heap.size + 1; omega)))) (Go.Canon.tr_one ?_)
                    simp only [List.getD_cons_zero, List.getD_cons_succ]
                    go_wp2_with fail
                    refine Go.Canon.tr_end (fun b' h9 => by subst h9; exact ((Below.heap_setCell _ ⟨w.heap.size + 1, 1, none⟩ _ w5.heap.size (by show w5.heap.size ≠ w.heap.size + 1; omega)).trans (Below.heap_setCell _ ⟨w.heap.size + 1, 0, none⟩ _ w5.heap.size (by show w5.heap.size ≠ w.heap.size + 1; omega)))) (Go.Canon.tr_seg ?_)
                    simp only [List.map_cons, List.map_nil, List.getD_cons_zero, List.getD_cons_succ]
                    go_wp2_with fail
                    refine Go.Canon.tr_to (Go.Canon.tr_fin (by rfl) (List.forall_mem_cons.2 ⟨.inl ⟨_, rfl, rfl, by rw [World.cell?_drew, f3]; rfl⟩, List.forall_mem_cons.2 ⟨.inl ⟨_, rfl, rfl, by rw [World.cell?_drew, f5]; rfl⟩, fun _ h => by cases h⟩⟩) ?_)
                    go_wp2_with fail
                    have hkR2 := ((Hhkz.out.set 0 (.int .i64 (M : Nat))).set 1 (.slice A5 T.length cap5)).drew
                    have hbzR := ((Hhbz.out.setCell (p := ⟨w.heap.size + 1, 0, none⟩) (by simp) (.int .i64 (M : Nat))).setCell (p := ⟨w.heap.size + 1, 1, none⟩) (by simp) (.slice A5 T.length cap5)).drew
                    have hfar : ∀ j, j ≠ w.heap.size + 1 → ((wz.setCell ⟨w.heap.size + 1, 0, none⟩ (.int .i64 (M : Nat))).setCell ⟨w.heap.size + 1, 1, none⟩ (.slice A5 T.length cap5)).drew.heap[j]? = wz.heap[j]? := fun j hj => (Below.heap_setCell _ ⟨w.heap.size + 1, 1, none⟩ _ j hj).trans (Below.heap_setCell _ ⟨w.heap.size + 1, 0, none⟩ _ j hj)
                    have hall := along_fin HhCz.out Hhown.out (by omega) (by omega) hfar
                    refine ret_cttt rfl rfl hkR2 Tryz.underlying24 rfl (by kernel_rfl) rfl ⟨⟨_, 0, rfl, Hhres.out, fun h9 => absurd rfl h9, fun _ => ⟨.slice A5 T.length cap5, _, _, Es, ?_, hall.1, hall.2.1, HhEs.out, hall.2.2⟩⟩, hbzR⟩
                    rw [HhM.out]
                    rfl
                · simp only [List.getD_cons_zero, List.getD_cons_succ]
                  go_wp2_with fail
                  refine Go.Canon.tr_end (fun _ _ => rfl) (Go.Canon.tr_seg ?_)
                  simp only [List.map_cons, List.map_nil, List.getD_cons_zero, List.getD_cons_succ]
                  go_wp2_with fail
                  refine Go.Canon.tr_to (Go.Canon.tr_one ?_)
                  simp only [List.getD_cons_zero, List.getD_cons_succ]
                  go_wp2_with fail
                  refine Go.Canon.tr_end (fun _ _ => rfl) (Go.Canon.tr_seg ?_)
                  simp only [List.map_cons, List.map_nil, List.getD_cons_zero, List.getD_cons_succ]
                  go_wp2_with fail
                  refine Go.Canon.tr_to (Go.Canon.tr_one ?_)
                  simp only [List.getD_cons_zero, List.getD_cons_succ]
                  go_wp2_with fail
                  refine Go.Canon.tr_end (fun b' h9 => by subst h9; exact ((Below.heap_setCell _ ⟨w.heap.size + 1, 1, none⟩ _ w5.heap.size (by show w5.heap.size ≠ w.heap.size + 1; omega)).trans (Below.heap_setCell _ ⟨w.heap.size + 1, 0, none⟩ _ w5.heap.size (by show w5.heap.size ≠ w.heap.size + 1; omega)))) (Go.Canon.tr_seg ?_)
                  simp only [List.map_cons, List.map_nil, List.getD_cons_zero, List.getD_cons_succ]
                  go_wp2_with fail
                  refine Go.Canon.tr_to (Go.Canon.tr_fin (by rfl) (List.forall_mem_cons.2 ⟨.inl ⟨_, rfl, rfl, by rw [World.cell?_drew, f3]; rfl⟩, List.forall_mem_cons.2 ⟨.inl ⟨_, rfl, rfl, by rw [World.cell?_drew, f5]; rfl⟩, fun _ h => by cases h⟩⟩) ?_)
                  go_wp2_with fail
                  have hkR2 := ((Hhkz.out.set 0 (.int .i64 (M : Nat))).set 1 (.slice A5 T.length cap5)).drew
                  have hbzR := ((Hhbz.out.setCell (p := ⟨w.heap.size + 1, 0, none⟩) (by simp) (.int .i64 (M : Nat))).setCell (p := ⟨w.heap.size + 1, 1, none⟩) (by simp) (.slice A5 T.length cap5)).drew
                  have hfar : ∀ j, j ≠ w.heap.size + 1 → ((wz.setCell ⟨w.heap.size + 1, 0, none⟩ (.int .i64 (M : Nat))).setCell ⟨w.heap.size + 1, 1, none⟩ (.slice A5 T.length cap5)).drew.heap[j]? = wz.heap[j]? := fun j hj => (Below.heap_setCell _ ⟨w.heap.size + 1, 1, none⟩ _ j hj).trans (Below.heap_setCell _ ⟨w.heap.size + 1, 0, none⟩ _ j hj)
                  have hall := along_fin HhCz.out Hhown.out (by omega) (by omega) hfar
                  refine ret_cttt rfl rfl hkR2 Tryz.underlying24 rfl (by kernel_rfl) rfl ⟨⟨_, 0, rfl, Hhres.out, fun h9 => absurd rfl h9, fun _ => ⟨.slice A5 T.length cap5, _, _, Es, ?_, hall.1, hall.2.1, HhEs.out, hall.2.2⟩⟩, hbzR⟩
                  rw [HhM.out]
                  rfl
end Go.Proofs.YtpbdcppaiafbgaaGreat

namespace Go.Proofs.YtpbdcppaiafbgaaGreat
open Go Go.RowKit Go.Words Go.Mesh
theorem AlongEnd.ok {w' : World} {N : Int} {T : List T3} {l : List (Int × Int)} {r : Value} (h : AlongEnd w' N T l r 0) : ∃ sv wv pv Es, r = .tuple #[.agg #[.int .i64 ((newO N T (l.map nm)).length : Nat), sv], wv, pv, .int .i64 0] ∧ CutOk N T l Es ∧ Sl 3 RTri w' w'.heap.size sv (newX N T (l.map nm)) ∧ Sl 1 RInt w' w'.heap.size wv (newO N T (l.map nm)) ∧ Sl 4 R4 w' w'.heap.size pv (pairsL N T l Es) := by
  obtain ⟨h1, _, h2⟩ := h
  obtain ⟨a1, a2, a3, a4⟩ := h1.zero
  obtain ⟨sv, wv, pv, Es, e1, e2, e3, e4, e5⟩ := h2 rfl
  exact ⟨sv, wv, pv, Es, e1, ⟨a1, a2, a3, a4, e4⟩, e2, e3, e5⟩
set_option maxHeartbeats 1000000 in
theorem tetra19_calls (w : World) : Calls Tryz.prog 59 #[] w fun e w' => (∃ g, e = .returned (.agg #[.int .i64 4, .slice (some ⟨g, 0, none⟩) 4 4]) ∧ Bk w' g 57 (triVals ex0)) ∧ Below w.heap.size w w' := by
  go_enter Tryz.func59, Tryz.ntmps59
  go_wp2_with fail
  have hk := (Bk.new w 24 [.int .i64 4, .slice (some ⟨w.heap.size + 1, 0, none⟩) 4 4]).alloc (.cells #[.int .i64 0, .int .i64 2, .int .i64 1, .int .i64 0, .int .i64 1, .int .i64 3, .int .i64 1, .int .i64 2, .int .i64 3, .int .i64 2, .int .i64 0, .int .i64 3] 57)
  exact ret_cell rfl rfl hk Tryz.underlying24 rfl (by kernel_rfl) rfl ⟨⟨w.heap.size + 1, rfl, Bk.new' 57 (triVals ex0) (by simp)⟩, ((Below.refl w.heap.size w).alloc (Nat.le_refl _) _).alloc (by simp) _⟩
def big19 (N : Int) (n m : Nat) : Bool := decide (40 < n) || decide (60 < N) || decide (N < -9) || decide (40 < m)
theorem small19 {N : Int} {n m : Nat} (h : big19 N n m = false) : n ≤ 40 ∧ N ≤ 60 ∧ -9 ≤ N ∧ m ≤ 40 := by
  unfold big19 at h
  simp only [Bool.or_eq_false_iff, decide_eq_false_iff_not] at h
  omega
set_option maxHeartbeats 2000000 in
theorem great19_calls (N : Int) (A A2 : Option Addr) (n m cap cap2 : Nat) (w : World) : Calls Tryz.prog 20 #[.agg #[.int .i64 N, .slice A n cap], .slice A2 m cap2] w fun e w' => e = .returned (.int .i64 (if big19 N n m = true then 1 else 0)) ∧ Below w.heap.size w w' := by
  have hb := (Below.refl w.heap.size w).alloc (Nat.le_refl _) (.cells #[.int .i64 N, .slice A n cap] 24)
  by_cases h1 : 40 < n
  · have e1 : big19 N n m = true := by unfold big19; simp [h1]
    have h1 : 40 < (n : Int) := by omega
    rw [e1]
    have Hhb := Lib.hid hb; clear hb; have He1 := Lib.hid e1; clear e1
    go_enter Tryz.func20, Tryz.ntmps20
    go_wp2_with fail
    all_goals first | (exfalso; omega) | skip
    go_ret
    exact ⟨rfl, Hhb.out⟩
  by_cases h2 : 60 < N
  · have e1 : big19 N n m = true := by unfold big19; simp [h2]
    have h1 : ¬ (40 < (n : Int)) := by omega
    rw [e1]
    have Hhb := Lib.hid hb; clear hb; have He1 := Lib.hid e1; clear e1
    go_enter Tryz.func20, Tryz.ntmps20
    go_wp2_with fail
    all_goals first | (exfalso; omega) | skip
    go_ret
    exact ⟨rfl, Hhb.out⟩
  by_cases h3 : N < -9
  · have e1 : big19 N n m = true := by unfold big19; simp [h3]
    have h1 : ¬ (40 < (n : Int)) := by omega
    rw [e1]
    have Hhb := Lib.hid hb; clear hb; have He1 := Lib.hid e1; clear e1
    go_enter Tryz.func20, Tryz.ntmps20
    go_wp2_with fail
    all_goals first | (exfalso; omega) | skip
    go_ret
    exact ⟨rfl, Hhb.out⟩
  by_cases h4 : 40 < m
  · have e1 : big19 N n m = true := by unfold big19; simp [h4]
    have h1 : ¬ (40 < (n : Int)) := by omega
    have h4 : 40 < (m : Int) := by omega
    rw [e1]
    have Hhb := Lib.hid hb; clear hb; have He1 := Lib.hid e1; clear e1
    go_enter Tryz.func20, Tryz.ntmps20
    go_wp2_with fail
    all_goals first | (exfalso; omega) | skip
    go_ret
    exact ⟨rfl, Hhb.out⟩
  · have e1 : big19 N n m = false := by unfold big19; simp; omega
    have h1 : ¬ (40 < (n : Int)) := by omega
    have h4 : ¬ (40 < (m : Int)) := by omega
    rw [e1]
    have Hhb := Lib.hid hb; clear hb; have He1 := Lib.hid e1; clear e1
    go_enter Tryz.func20, Tryz.ntmps20
    go_wp2_with fail
    all_goals first | (exfalso; omega) | skip
    go_ret
    exact ⟨rfl, Hhb.out⟩
theorem AlongEnd.shape {w' : World} {N : Int} {T : List T3} {l : List (Int × Int)} {r : Value} {c : Int} (h : AlongEnd w' N T l r c) : ∃ n0 A n cp wv pv, r = .tuple #[.agg #[.int .i64 n0, .slice A n cp], wv, pv, .int .i64 c] := by
  by_cases hc : c = 0
  · subst hc
    obtain ⟨sv, wv, pv, Es, rfl, _, hX, _⟩ := h.ok
    obtain ⟨A, cp, rfl, _⟩ := hX.form
    exact ⟨_, _, _, _, _, _, rfl⟩
  · exact ⟨_, _, _, _, _, _, h.2.1 hc⟩
theorem edges_block {w : World} {g : Nat} {t : TypeId} {l : List (Int × Int)} (hb : Bk w g t (flat2 l)) {cap : Nat} (hc : l.length ≤ cap) : Sl 2 RPair w w.heap.size (.slice (some ⟨g, 0, none⟩) l.length cap) l :=
  Sl.of_block hb hc fun i a hi => by
    have hlt := (List.getElem?_eq_some_iff.1 hi).1
    refine ⟨by rw [flat2_len]; omega, flat2_at l i a hi⟩
set_option maxRecDepth 20000 in
set_option maxHeartbeats 4000000 in
theorem awake19_calls (w : World) : Calls Tryz.prog 19 #[] w fun e w' => e = .returned (.bool true) ∧ Below w.heap.size w w' := by
  have htr := tetra19_calls w
  have hok : ∀ e ∈ ct19, ok2 e := fun e he => by
    have h9 : ct19.all (fun e => decide (-9223372036854775808 ≤ e.1 ∧ e.1 ≤ 9223372036854775807) && decide (-9223372036854775808 ≤ e.2 ∧ e.2 ≤ 9223372036854775807)) = true := by decide +kernel
    have := List.all_eq_true.1 h9 e he
    simpa [ok2, I64] using this
  have Hhtr := Lib.hid htr; clear htr; have Hhok := Lib.hid hok; clear hok
  go_enter Tryz.func19, Tryz.ntmps19
  go_wp2_with fail
  refine Hhtr.out.mono ?_
  rintro e w1 ⟨⟨g, rfl, hkT⟩, hb1⟩
  have hz1 := hb1.size
  obtain ⟨w2, hw2⟩ : ∃ w2, w2 = w1.alloc (.cells #[.int .i64 0, .int .i64 1, .int .i64 1, .int .i64 2] 39) := ⟨_, rfl⟩
  have hb2 : Below w1.heap.size w1 w2 := by rw [hw2]; exact (Below.refl w1.heap.size w1).alloc (Nat.le_refl _) _
  have hkE : Bk w2 w1.heap.size 39 (flat2 ct19) := by rw [hw2]; exact Bk.new w1 39 (flat2 ct19)
  have hkT2 : Bk w2 g 57 (triVals ex0) := by rw [hw2]; exact hkT.alloc _
  have hz2 : w2.heap.size = w1.heap.size + 1 := by rw [hw2]; simp
  have hbel2 := hb1.trans (hb2.mono hz1)
  have hT2 : Sl 3 RTri w2 w2.heap.size (.slice (some ⟨g, 0, none⟩) 4 4) ex0 := sl_tris (T := ex0) hkT2 (by decide)
  have hl2 : Sl 2 RPair w2 w2.heap.size (.slice (some ⟨w1.heap.size, 0, none⟩) 2 2) ct19 := edges_block (l := ct19) hkE (by decide)
  have hal := along_calls (w := w2) (B := w2.heap.size) (N := 4) (Nat.le_refl _) hT2 (I64.nat (n := 4) (by decide)) hl2 Hhok.out (by decide)
  have HhkT := Lib.hid hkT; clear hkT; have HhkE := Lib.hid hkE; clear hkE; have HhkT2 := Lib.hid hkT2; clear hkT2; have HhT2 := Lib.hid hT2; clear hT2; have Hhl2 := Lib.hid hl2; clear hl2; have Hhal := Lib.hid hal; clear hal
  go_wp2_with fail
  rw [← hw2]
  clear hw2
  go_wp2_with fail
  refine Hhal.out.mono ?_
  rintro e w3 ⟨⟨r, c, rfl, hend⟩, hb3⟩
  obtain rfl := cut19 hend.1
  obtain ⟨xv, wv, pv, Es, rfl, hcut, hX, hO, hP⟩ := hend.ok
  have hpl : (pairsL 4 ex0 ct19 Es).length = 2 := hcut.len
  clear hend hcut
  rw [newO19] at hO ⊢
  obtain ⟨A3, cap3, rfl, hcap3⟩ := hX.form
  obtain ⟨A4, cap4, rfl, hcap4⟩ := hO.form
  obtain ⟨A5, cap5, rfl, hcap5⟩ := hP.form
  rw [hpl] at hcap5 ⊢
  generalize (newX 4 ex0 (ct19.map nm)).length = nX at *
  clear hX hP
  have hz3 := hb3.size
  have hbel3 := hbel2.trans (hb3.mono hbel2.size)
  have hb4 := ((Below.refl w3.heap.size w3).alloc (Nat.le_refl _) (.cells #[.int .i64 5, .slice A3 nX cap3] 24)).alloc (by simp) (.cells #[.int .i64 0, .int .i64 1, .int .i64 2, .int .i64 3, .int .i64 1] 3)
  have hz4 : ((w3.alloc (.cells #[.int .i64 5, .slice A3 nX cap3] 24)).alloc (.cells #[.int .i64 0, .int .i64 1, .int .i64 2, .int .i64 3, .int .i64 1] 3)).heap.size = w3.heap.size + 2 := by simp
  have hsA := (hO.below keeps_int hb4).keep keeps_int (Below.refl _ _) (show w3.heap.size ≤ ((w3.alloc (.cells #[.int .i64 5, .slice A3 nX cap3] 24)).alloc (.cells #[.int .i64 0, .int .i64 1, .int .i64 2, .int .i64 3, .int .i64 1] 3)).heap.size by omega)
  have hsB := sl_block (l := [0, 1, 2, 3, 1]) (cap := 5) (Bk.new' (n := w3.heap.size + 1) (w := w3.alloc (.cells #[.int .i64 5, .slice A3 nX cap3] 24)) 3 (ivals [0, 1, 2, 3, 1]) (by simp)) (by decide)
  have hin := ints_calls hsA hsB (Nat.le_refl _) (by decide)
  rw [decide_eq_true (rfl : ([0, 1, 2, 3, 1] : List Int) = [0, 1, 2, 3, 1])] at hin
  have hbel4 := hbel3.trans (hb4.mono hbel3.size)
  have HhO := Lib.hid hO; clear hO; have HhsA := Lib.hid hsA; clear hsA; have HhsB := Lib.hid hsB; clear hsB; have Hhin := Lib.hid hin; clear hin
  go_wp2_with fail
  refine Hhin.out.mono ?_
  rintro e w5 ⟨rfl, hb5⟩
  have hbel5 := hbel4.trans (hb5.mono hbel4.size)
  go_wp2_with fail
  go_ret
  exact ⟨rfl, hbel5⟩
end Go.Proofs.YtpbdcppaiafbgaaGreat
