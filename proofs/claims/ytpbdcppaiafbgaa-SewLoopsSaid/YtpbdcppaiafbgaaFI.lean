/- Walks: certify.Is; sew.Sew's parts. -/
import Derived.Laws.EntriesVeiled
import Derived.Test.YtpbdcppaiafbgaaFH
import Derived.Test.YtpbdcppaiafbgaaBM
import Derived.Test.YtpbdcppaiafbgaaEC
namespace Go.Mesh
/-- A row of n numbers of which the first k are filled. -/
def tabL (f : Nat → Int) (k n : Nat) : List Int := (List.range n).map fun v => if v < k then f v else 0
theorem tabL_len (f : Nat → Int) (k n : Nat) : (tabL f k n).length = n := by unfold tabL; simp
theorem tabL_zero (f : Nat → Int) (n : Nat) : tabL f 0 n = List.replicate n 0 := by
  unfold tabL
  apply List.ext_getElem?
  intro j
  rw [List.getElem?_map, List.getElem?_replicate]
  by_cases hj : j < n
  · rw [List.getElem?_range hj, if_pos hj]; simp
  · rw [List.getElem?_eq_none (by simp; omega), if_neg hj]; rfl
theorem tabL_at (f : Nat → Int) (k : Nat) {n v : Nat} (h : v < n) : (tabL f k n)[v]? = some (if v < k then f v else 0) := by
  unfold tabL
  rw [List.getElem?_map, List.getElem?_range h]; rfl
theorem tabL_set (f : Nat → Int) {k n : Nat} (h : k < n) : (tabL f k n).set k (f k) = tabL f (k + 1) n := by
  apply List.ext_getElem?
  intro j
  rw [List.getElem?_set, tabL_len]
  by_cases hj : j < n
  · rw [tabL_at f _ hj, tabL_at f _ hj]
    by_cases hk : k = j
    · subst hk
      rw [if_pos rfl, if_pos h, if_pos (by omega)]
    · rw [if_neg hk]
      by_cases h9 : j < k
      · rw [if_pos h9, if_pos (by omega)]
      · rw [if_neg h9, if_neg (by omega)]
  · rw [List.getElem?_eq_none (by rw [tabL_len]; omega), List.getElem?_eq_none (by rw [tabL_len]; omega)]
    by_cases h9 : k = j
    · omega
    · rw [if_neg h9]
theorem tabL_full (f : Nat → Int) (n : Nat) : tabL f n n = (List.range n).map f := by
  unfold tabL
  apply List.map_congr_left
  intro v hv
  rw [if_pos (List.mem_range.1 hv)]
theorem placed_zero {has : Int × Int → Bool} {l : List P4} (h : placedN has l = 0) : (∀ e ∈ edgs l, has e = true) ∧ (edgs l).Nodup := by
  unfold placedN at h
  split at h
  · rename_i h1
    split at h
    · rename_i h2
      exact ⟨List.all_eq_true.1 h1, h2⟩
    · cases h
  · cases h
theorem mem_edgs {l : List P4} {p : P4} (hp : p ∈ l) : p.1 ∈ edgs l ∧ p.2 ∈ edgs l := ⟨List.mem_flatMap.2 ⟨p, hp, by simp⟩, List.mem_flatMap.2 ⟨p, hp, by simp⟩⟩
theorem labE_take {l : List P4} {k : Nat} {p : P4} (h : l[k]? = some p) : labE (edP (l.take (k + 1))) = mrg (mrg (labE (edP (l.take k))) p.1.1 p.2.2) p.1.2 p.2.1 := by
  obtain ⟨hk, rfl⟩ := List.getElem?_eq_some_iff.1 h
  rw [List.take_succ_eq_append_getElem hk]
  have : edP (l.take k ++ [l[k]]) = (edP (l.take k) ++ [(l[k].1.1, l[k].2.2)]) ++ [(l[k].1.2, l[k].2.1)] := by
    unfold edP; rw [List.flatMap_append, List.append_assoc]; rfl
  rw [this, labE_snoc, labE_snoc]
theorem surf_tri {N : Int} {T : List T3} (hs : Surf N T) : ∀ t ∈ T, (0 ≤ t.1 ∧ t.1 < N) ∧ (0 ≤ t.2.1 ∧ t.2.1 < N) ∧ (0 ≤ t.2.2 ∧ t.2.2 < N) := fun t ht => by
  obtain ⟨i, hi, rfl⟩ := mem_triAt ht
  have h0 := hs.rng (3 * i + 0) (by omega)
  have h1 := hs.rng (3 * i + 1) (by omega)
  have h2 := hs.rng (3 * i + 2) (by omega)
  rw [corner_at T i 0 (by omega)] at h0
  rw [corner_at T i 1 (by omega)] at h1
  rw [corner_at T i 2 (by omega)] at h2
  exact ⟨h0, h1, h2⟩
theorem mem_edPF {l : List P4} {e : Int × Int} (h : e ∈ edP l) : ∃ p ∈ l, e = (p.1.1, p.2.2) ∨ e = (p.1.2, p.2.1) := by
  obtain ⟨p, hp, h1⟩ := List.mem_flatMap.1 h
  refine ⟨p, hp, ?_⟩
  simpa using h1
end Go.Mesh
namespace Go.Words
open Go Go.RowKit Go.Mesh
/-- Three results, the first one a struct that lies in memory. -/
theorem ret_ctt {P : Program} {fn : Func} {p q r : Tmp} {ty : TypeId} (h : fn.results = #[.cell q ty, .tmp p, .tmp r]) {R : Ending → World → Prop} {a : Act} {w : World} {g : Nat} {t : TypeId} {cs : List Value} {d : TypeDesc}
    (hp : a.tmps.getD q undef = .pointer (some ⟨g, 0, none⟩)) (hg : Bk w g t cs) (hu : P.underlying ty = some d)
    (hd : (match d with | .struct _ | .array _ _ => true | _ => false) = true) (hi : (P.info? ty).map (·.size) = some cs.length) (hde : a.defers = [])
    (hR : R (.returned (.tuple #[.agg cs.toArray, a.tmps.getD p undef, a.tmps.getD r undef])) w) : bodyPost P fn R .ret a w := by
  refine bodyPost_ret ?_ hde hR
  have hp' : a.tmps[q]?.getD undef = .pointer (some ⟨g, 0, none⟩) := by simpa using hp
  simp [results, h, hp', asAddr, run_loadVar_row w g t ty cs.toArray (0, 0) d hg hu hd (by simpa using hi)]
end Go.Words
namespace Go.Proofs.Ytpbdcppaiafbgaa
open Go Go.RowKit Go.Words Go.Mesh

theorem sl_zv {w : World} {g : Nat} {t : TypeId} {l : List Int} (h : Bk w g t (l.map (Value.int .i64))) : Sl 1 RInt w w.heap.size (.slice (some ⟨g, 0, none⟩) l.length l.length) l :=
  Sl.of_block h (Nat.le_refl _) fun i a hi => by
    obtain ⟨hl, rfl⟩ := List.getElem?_eq_some_iff.1 hi
    refine ⟨by rw [List.length_map]; omega, ?_⟩
    unfold RInt
    rw [Nat.mul_one, List.drop_eq_getElem_cons (by simpa using hl)]
    simp
/-- The labels that pairs make. -/
def labP (l : List P4) : Int → Int := labE (edP l)
/-- What sew.Sew hands back when it refuses. -/
def NoSew (x o : Value) : Prop := x = .agg #[.int .i64 0, .slice none 0 0] ∧ o = .slice none 0 0
/-- Why it refuses, or what it makes. -/
def SewEnd (w' : World) (N : Int) (T : List T3) (l : List P4) (x o : Value) (c : Int) : Prop :=
  (¬ Surf N T ∧ c = 11 ∧ NoSew x o) ∨
  (Surf N T ∧ c = placedN (fun e => decide (e ∈ bedges T)) l ∧ c ≠ 0 ∧ NoSew x o) ∨
  (Surf N T ∧ placedN (fun e => decide (e ∈ bedges T)) l = 0 ∧ ¬ Surf (rnk (labP l) N.toNat : Nat) (sewT (labP l) T) ∧ c = 11 ∧ NoSew x o) ∨
  (Surf N T ∧ placedN (fun e => decide (e ∈ bedges T)) l = 0 ∧ Surf (rnk (labP l) N.toNat : Nat) (sewT (labP l) T) ∧ c = 0 ∧
    ∃ xs, x = .agg #[.int .i64 (rnk (labP l) N.toNat : Nat), xs] ∧ Sl 3 RTri w' w'.heap.size xs (sewT (labP l) T) ∧ Sl 1 RInt w' w'.heap.size o (sewOf (labP l) N.toNat))
theorem own_from {w wz : World} {base n size : Nat} {e : TypeId} {v : Value} {xs : List Value} (h : w.ownsRow base e size v n xs) (hb : ∀ b, base ≤ b → b < w.heap.size → wz.heap[b]? = w.heap[b]?) : wz.ownsRow base e size v n xs := by
  refine ⟨h.1, ?_⟩
  rcases h.2 with h0 | ⟨g, cap, cur, h1, h2, h3, h4⟩
  · exact .inl h0
  · exact .inr ⟨g, cap, cur, h1, h2, (hb g h2 (Array.getElem?_eq_some_iff.1 h3).1).trans h3, h4⟩
/-- What it makes stays, whatever is done to what was there before. -/
def SewFar (w w' : World) (N : Int) (T : List T3) (l : List P4) (x o : Value) (c : Int) : Prop :=
  c = 0 → ∀ wz : World, (∀ b, w.heap.size ≤ b → b < w'.heap.size → wz.heap[b]? = w'.heap[b]?) →
    ∃ xs, x = .agg #[.int .i64 (rnk (labP l) N.toNat : Nat), xs] ∧ Sl 3 RTri wz wz.heap.size xs (sewT (labP l) T) ∧ Sl 1 RInt wz wz.heap.size o (sewOf (labP l) N.toNat)
set_option maxRecDepth 40000 in
set_option maxHeartbeats 8000000 in
theorem sew_calls2 {w : World} {B : Nat} {sv lv : Value} {N : Int} {T : List T3} {l : List P4} (hT : Sl 3 RTri w B sv T) (hl : Sl 4 R4 w B lv l) (hB0 : B ≤ w.heap.size) (hN : I64 N) (hll : l.length ≤ 1000000) (hok : ∀ e ∈ edgs l, ok2 e) :
    Calls Try.prog 9 #[.agg #[.int .i64 N, sv], lv] w fun e w' => (∃ (x o : Value) (c : Int), e = .returned (.tuple #[x, o, .int .i64 c]) ∧ SewEnd w' N T l x o c ∧ SewFar w w' N T l x o c) ∧ Below w.heap.size w w' := by
  obtain ⟨A, cap, rfl, hcap⟩ := hT.form
  obtain ⟨A2, cap2, rfl, hcap2⟩ := hl.form
  have hb1 := ((Below.refl w.heap.size w).alloc (Nat.le_refl _) (.cells #[.int .i64 N, .slice A T.length cap] 24)).alloc (by simp) (.cells #[.int .i64 0, .slice none 0 0] 24)
  have hk1 := (Bk.new w 24 [.int .i64 N, .slice A T.length cap]).alloc (.cells #[.int .i64 0, .slice none 0 0] 24)
  have hk2 := Bk.new' (n := w.heap.size + 1) (w := w.alloc (.cells #[.int .i64 N, .slice A T.length cap] 24)) 24 [.int .i64 0, .slice none 0 0] (by simp)
  have hTA := hT.below keeps_tri (hb1.mono hB0)
  have hlA := hl.below keeps_4 (hb1.mono hB0)
  have hz0 : w.heap.size + 2 ≤ ((w.alloc (.cells #[.int .i64 N, .slice A T.length cap] 24)).alloc (.cells #[.int .i64 0, .slice none 0 0] 24)).heap.size := by simp
  generalize hw0 : (w.alloc (.cells #[.int .i64 N, .slice A T.length cap] 24)).alloc (.cells #[.int .i64 0, .slice none 0 0] 24) = w0 at *
  have hci := certis_calls (.slice A T.length cap) N T w0 (B := B) (by omega) hTA hN
  have c0 : w0.cell? ⟨w.heap.size, 0, none⟩ = some (.int .i64 N) := hk1.cell 0
  have c1 : w0.cell? ⟨w.heap.size, 1, none⟩ = some (.slice A T.length cap) := hk1.cell 1
  have HhT := Lib.hid hT; clear hT; have Hhl := Lib.hid hl; clear hl; have Hhk1 := Lib.hid hk1; clear hk1; have Hhk2 := Lib.hid hk2; clear hk2; have HhTA := Lib.hid hTA; clear hTA; have HhlA := Lib.hid hlA; clear hlA; have Hhci := Lib.hid hci; clear hci; have Hhok := Lib.hid hok; clear hok
  go_enter Try.func9, Try.ntmps9
  go_wp2_with fail
  clear hw0
  refine Hhci.out.mono ?_
  rintro e w1 ⟨⟨b, rfl, hb⟩, hb2⟩
  have hz1 := hb2.size
  have hbel1 := hb1.trans (hb2.mono (by omega))
  have hk11 := Hhk1.out.below hb2 (by omega)
  have hk21 := Hhk2.out.below hb2 (by omega)
  cases b with
  | false =>
    have hn : ¬ Surf N T := fun h => by have := hb.2 h; cases this
    have f1 := hk21.frozen
    have e0 : w1.cell? ⟨w.heap.size + 1, 0, none⟩ = some (.int .i64 0) := hk21.cell 0
    have e1 : w1.cell? ⟨w.heap.size + 1, 1, none⟩ = some (.slice none 0 0) := hk21.cell 1
    have hbf := (hbel1.setCell (p := ⟨w.heap.size + 1, 0, none⟩) (by simp) (.int .i64 0)).setCell (p := ⟨w.heap.size + 1, 1, none⟩) (by simp) (.slice none 0 0)
    have hkf := (hk21.set 0 (.int .i64 0)).set 1 (.slice none 0 0)
    have Hhb := Lib.hid hb; clear hb; have Hhn := Lib.hid hn; clear hn; have Hhk11 := Lib.hid hk11; clear hk11; have Hhk21 := Lib.hid hk21; clear hk21; have Hhbf := Lib.hid hbf; clear hbf; have Hhkf := Lib.hid hkf; clear hkf
    go_wp2_with fail
    exact ret_ctt rfl rfl Hhkf.out Try.underlying24 rfl (by kernel_rfl) rfl ⟨⟨_, _, _, rfl, .inl ⟨Hhn.out, rfl, rfl, rfl⟩, fun h9 => (by cases h9)⟩, Hhbf.out⟩
  | true =>
    have hs := hb.1 rfl
    have hTw := HhTA.out.below keeps_tri (hb2.mono (by omega))
    have hlw := HhlA.out.below keeps_4 (hb2.mono (by omega))
    have hnw := new_calls (.slice A T.length cap) N T w1 (B := B) (by omega) hTw hN
    have d0 : w1.cell? ⟨w.heap.size, 0, none⟩ = some (.int .i64 N) := hk11.cell 0
    have d1 : w1.cell? ⟨w.heap.size, 1, none⟩ = some (.slice A T.length cap) := hk11.cell 1
    have Hhb := Lib.hid hb; clear hb; have Hhs := Lib.hid hs; clear hs; have Hhk11 := Lib.hid hk11; clear hk11; have Hhk21 := Lib.hid hk21; clear hk21; have HhTw := Lib.hid hTw; clear hTw; have Hhlw := Lib.hid hlw; clear hlw; have Hhnw := Lib.hid hnw; clear hnw
    go_wp2_with fail
    refine Hhnw.out.mono ?_
    rintro e w2 ⟨⟨pv, x, y, z, rfl, hor⟩, hb3⟩
    rcases hor with ⟨hs, htab⟩ | ⟨hns, rfl⟩
    case inr => exact absurd Hhs.out hns
    obtain ⟨t, rfl⟩ : ∃ t, pv = .pointer t := by
      obtain ⟨g, _, _, _, _, _, rfl, _⟩ := htab
      exact ⟨_, rfl⟩
    have hz2 := hb3.size
    have hbel2 := hbel1.trans (hb3.mono (by omega))
    have hk12 := Hhk11.out.below hb3 Hhk11.out.lt
    have hk22 := Hhk21.out.below hb3 Hhk21.out.lt
    have hTw2 := HhTw.out.below keeps_tri (hb3.mono (by omega))
    have hlw2 := Hhlw.out.below keeps_4 (hb3.mono (by omega))
    have hb4 := ((Below.refl w2.heap.size w2).alloc (Nat.le_refl _) (.cells #[.int .i64 x, .int .i64 y, .int .i64 z] 53)).alloc (by simp) (.map #[] 0)
    have hmp0 := Mp.new' (enc := enc2) (ok := ok2) (ev := enc1) (n := w2.heap.size + 1) (w := w2.alloc (.cells #[.int .i64 x, .int .i64 y, .int .i64 z] 53)) (by simp)
    have hz3 : w2.heap.size + 2 ≤ ((w2.alloc (.cells #[.int .i64 x, .int .i64 y, .int .i64 z] 53)).alloc (.map #[] 0)).heap.size := by simp
    have hmm := @run_makeMap Try.prog
    generalize hw3 : (w2.alloc (.cells #[.int .i64 x, .int .i64 y, .int .i64 z] 53)).alloc (.map #[] 0) = w3 at *
    have hed := bedges_calls (TabN.below (.inl htab) hb4 (Nat.le_refl _)) hs
    have hrng : ∀ e ∈ bedges T, ok2 e := fun e he => by
      obtain ⟨c, h1, _, rfl⟩ := mem_bedges.1 he
      exact eg_ok hs h1
    have hlen : (bedges T).length ≤ 24576 := by have := bord_len T; have := hs.tmax; unfold bedges; rw [List.length_map]; omega
    have htm := hs.tmax
    have hn0 := hs.n0
    have hnm := hs.nmax
    generalize hL : bedges T = L at *
    have Hhs := Lib.hid hs; clear hs; have Hhtab := Lib.hid htab; clear htab; have Hhk12 := Lib.hid hk12; clear hk12; have Hhk22 := Lib.hid hk22; clear hk22; have HhTw2 := Lib.hid hTw2; clear hTw2; have Hhlw2 := Lib.hid hlw2; clear hlw2; have Hhmp0 := Lib.hid hmp0; clear hmp0; have Hhed := Lib.hid hed; clear hed; have Hhrng := Lib.hid hrng; clear hrng; have HhL := Lib.hid hL; clear hL
    go_wp2_with fail
    clear hw3 hmm
    refine Hhed.out.mono ?_
    rintro e w4 ⟨⟨r, rfl, hown⟩, hb5⟩
    obtain ⟨A3, cap3, rfl, hcap3⟩ := own_form hown
    have hz4 := hb5.size
    have hb6 := hb4.trans (hb5.mono (by omega))
    have hmp := Hhmp0.out.below hb5 (by omega)
    have Hhown := Lib.hid hown; clear hown; have Hhmp := Lib.hid hmp; clear hmp
    go_wp2_with fail
    go_loopw [37] (fun i wr => ∃ (k : Nat) (m : List ((Int × Int) × Int)), k ≤ L.length ∧ i = .int .i64 k ∧ Mp enc2 ok2 enc1 wr (w2.heap.size + 1) m ∧ (∀ e, (Words.look m e).isSome = true ↔ e ∈ L.take k) ∧ Below w2.heap.size w2 wr ∧ wr.ownsRow w3.heap.size 47 2 (.slice A3 L.length cap3) L.length (pvals L)) (fun i _ => L.length - (intOf i).toNat)
    case atStart => exact ⟨0, [], by omega, rfl, Hhmp.out, fun e => by simp [Words.look], hb6, Hhown.out⟩
    case round =>
      obtain ⟨k, m, hk, rfl, hmr, hmk, hbel, hownr⟩ := hrel
      have hz := hbel.size
      have hml := hmr.lt
      by_cases hkl : k < L.length
      · obtain ⟨b, o, rfl, hb, a1, a2⟩ := (sl_own_pairs hownr).pair_at hkl
        have hbw : b < wr.heap.size := by omega
        have htk := List.take_succ_eq_append_getElem hkl
        have hr := Hhrng.out _ (List.getElem_mem hkl)
        generalize L[k] = ed at *
        obtain ⟨x1, x2⟩ := ed
        simp only [] at a1 a2
        have hbA := hbel.alloc hz (.cells #[.int .i64 x1, .int .i64 x2] 47)
        have hmA := hmr.alloc (.cells #[.int .i64 x1, .int .i64 x2] 47)
        have hoA := hownr.alloc (.cells #[.int .i64 x1, .int .i64 x2] 47)
        have hst : ∀ e, (Words.look (Words.put m (x1, x2) (k : Int)) e).isSome = true ↔ e ∈ L.take (k + 1) := fun e => by
          rw [look_put, htk]
          by_cases h9 : (x1, x2) = e
          · rw [if_pos h9]; simp [h9]
          · rw [if_neg h9, hmk e, List.mem_append, List.mem_singleton]
            exact ⟨.inl, fun h8 => h8.resolve_right fun h7 => h9 h7.symm⟩
        have Hhmr := Lib.hid hmr; clear hmr; have Hhownr := Lib.hid hownr; clear hownr; have Hhtk := Lib.hid htk; clear htk; have Hhr := Lib.hid hr; clear hr; have HhmA := Lib.hid hmA; clear hmA; have HhoA := Lib.hid hoA; clear hoA; have Hhst := Lib.hid hst; clear hst; have Hhmk := Lib.hid hmk; clear hmk
        go_wp2_with (at_mapUpdate; refine wpList_put _ rfl _ _ _ 67 rfl 47 3 keyE Try.underlying67 (w2.heap.size + 1) m rfl HhmA.out (x1, x2) rfl Hhr.out (k : Int) rfl ?_; intro w5 hmp2 hgr2 hsz2; have Hhmp2 := Lib.hid hmp2; clear hmp2; have Hhgr2 := Lib.hid hgr2; clear hgr2; clear hsz2)
        have hb3 := hbA.grown Hhgr2.out hbA.size (fun q hq => by cases hq; omega)
        refine ⟨⟨k + 1, _, by omega, by simp, Hhmp2.out, Hhst.out, hb3, HhoA.out.kept Hhgr2.out (.inr ?_)⟩, by simp [intOf]; omega⟩
        exact (HhmA.out.no_row HhoA.out).symm
      · obtain rfl : k = L.length := by omega
        rw [List.take_length] at hmk
        obtain ⟨w5, hw5⟩ : ∃ w5, w5 = wr := ⟨_, rfl⟩
        subst hw5
        have hpl := placed_calls m hmr (Hhlw2.out.below keeps_4 (hbel.mono (by omega))) (by omega) hll Hhok.out
        have hfe : (fun e => (Words.look m e).isSome) = (fun e => decide (e ∈ L)) := funext fun e => by
          rw [Bool.eq_iff_iff, hmk e, decide_eq_true_eq]
        rw [hfe] at hpl
        have hbel5 := hbel2.trans (hbel.mono (by omega))
        have hk15 := Hhk12.out.below hbel Hhk12.out.lt
        have hk25 := Hhk22.out.below hbel Hhk22.out.lt
        obtain ⟨c, hc⟩ : ∃ c, placedN (fun e => decide (e ∈ L)) l = c := ⟨_, rfl⟩
        rw [hc] at hpl
        have Hhmr := Lib.hid hmr; clear hmr; have Hhownr := Lib.hid hownr; clear hownr; have Hhmk := Lib.hid hmk; clear hmk; have Hhpl := Lib.hid hpl; clear hpl; have Hhfe := Lib.hid hfe; clear hfe; have Hhc := Lib.hid hc; clear hc; have Hhk15 := Lib.hid hk15; clear hk15; have Hhk25 := Lib.hid hk25; clear hk25
        go_wp2_with fail
        refine Hhpl.out.mono ?_
        rintro e w6 ⟨rfl, hb7⟩
        have hz6 := hb7.size
        have hbel6 := hbel5.trans (hb7.mono hbel5.size)
        have hk16 := Hhk15.out.below hb7 Hhk15.out.lt
        have hk26 := Hhk25.out.below hb7 Hhk25.out.lt
        by_cases hc0 : c = 0
        · subst hc0
          have hpz := Hhc.out
          have hall := placed_zero hpz
          have c06 : w6.cell? ⟨w.heap.size, 0, none⟩ = some (.int .i64 N) := hk16.cell 0
          have c16 : w6.cell? ⟨w.heap.size, 1, none⟩ = some (.slice A T.length cap) := hk16.cell 1
          have hv4 : ∀ p ∈ l, (0 ≤ p.1.1 ∧ p.1.1 < N) ∧ (0 ≤ p.1.2 ∧ p.1.2 < N) ∧ (0 ≤ p.2.1 ∧ p.2.1 < N) ∧ (0 ≤ p.2.2 ∧ p.2.2 < N) := fun p hp => by
            have q1 := hall.1 _ (mem_edgs hp).1
            have q2 := hall.1 _ (mem_edgs hp).2
            rw [decide_eq_true_eq, ← HhL.out] at q1 q2
            obtain ⟨c1, g1, _, g2⟩ := mem_bedges.1 q1
            obtain ⟨c2, g3, _, g4⟩ := mem_bedges.1 q2
            rw [← g2, ← g4]
            exact ⟨Hhs.out.rng _ (nx_lt g1), Hhs.out.rng _ (pv_lt g1), Hhs.out.rng _ (nx_lt g3), Hhs.out.rng _ (pv_lt g3)⟩
          obtain ⟨n, hNn⟩ : ∃ n : Nat, N = n := ⟨N.toNat, by omega⟩
          have hn4 : n ≤ 4096 := by omega
          rw [hNn] at c06 hv4
          have hE0 : ∀ k, ∀ e ∈ edP (l.take k), 0 ≤ e.1 ∧ 0 ≤ e.2 := fun k e he => by
            obtain ⟨p, hp, h1 | h1⟩ := mem_edPF he
            · have := hv4 p (List.mem_of_mem_take hp); rw [h1]; exact ⟨this.1.1, this.2.2.2.1⟩
            · have := hv4 p (List.mem_of_mem_take hp); rw [h1]; exact ⟨this.2.1.1, this.2.2.1.1⟩
          have hTw6 := (HhTw2.out.below keeps_tri (hbel.mono (by omega))).below keeps_tri (hb7.mono (by omega))
          have hlw6 := (Hhlw2.out.below keeps_4 (hbel.mono (by omega))).below keeps_4 (hb7.mono (by omega))
          have hB6 : B ≤ w6.heap.size := by omega
          have hm1 := run_make_rep (P := Try.prog) 31 Try.underlying31 info_int rfl n (by omega) (by omega)
          have hkR0 := Bk.new w6 3 (List.replicate n (.int .i64 0))
          rw [List.toArray_replicate] at hkR0
          have hkR := hkR0.alloc (.cells #[.slice (some ⟨w6.heap.size, 0, none⟩) n n] 31)
          have hkr := Bk.new' (n := w6.heap.size + 1) (w := w6.alloc (.cells (Array.replicate n (Value.int .i64 0)) 3)) 31 [.slice (some ⟨w6.heap.size, 0, none⟩) n n] (by simp)
          have hb8 := ((Below.refl w6.heap.size w6).alloc (Nat.le_refl _) (.cells (Array.replicate n (Value.int .i64 0)) 3)).alloc (by simp) (.cells #[.slice (some ⟨w6.heap.size, 0, none⟩) n n] 31)
          have hz8 : w6.heap.size + 2 ≤ ((w6.alloc (.cells (Array.replicate n (Value.int .i64 0)) 3)).alloc (.cells #[.slice (some ⟨w6.heap.size, 0, none⟩) n n] 31)).heap.size := by simp
          have htz : (tabL (fun v => (v : Int)) 0 n).map (Value.int .i64) = List.replicate n (.int .i64 0) := by rw [tabL_zero, List.map_replicate]
          rw [← htz] at hkR
          clear hkR0
          have Hhk16 := Lib.hid hk16; clear hk16; have Hhk26 := Lib.hid hk26; clear hk26; have Hhpz := Lib.hid hpz; clear hpz; have Hhall := Lib.hid hall; clear hall; have Hhv4 := Lib.hid hv4; clear hv4; have HhE0 := Lib.hid hE0; clear hE0; have HhTw6 := Lib.hid hTw6; clear hTw6; have Hhlw6 := Lib.hid hlw6; clear hlw6; have HhkR := Lib.hid hkR; clear hkR; have Hhkr := Lib.hid hkr; clear hkr; have Hhb8 := Lib.hid hb8; clear hb8; have Hhtz := Lib.hid htz; clear htz; have HhNn := Lib.hid hNn; clear hNn
          go_wp2_with fail
          clear hm1
          go_loopw [58] (fun i wr => ∃ k : Nat, k ≤ n ∧ i = .int .i64 (k : Int) ∧ Bk wr w6.heap.size 3 ((tabL (fun v => (v : Int)) k n).map (Value.int .i64)) ∧ Bk wr (w6.heap.size + 1) 31 [.slice (some ⟨w6.heap.size, 0, none⟩) n n] ∧ Below w6.heap.size w6 wr) (fun i _ => n - (intOf i).toNat)
          case atStart => exact ⟨0, by omega, rfl, HhkR.out, Hhkr.out, Hhb8.out⟩
          case round =>
            obtain ⟨k, hk, rfl, hkRr, hkrr, hbr⟩ := hrel
            have hzr := hbr.size
            have cr := hkrr.cell 0
            simp only [List.getElem?_cons_zero] at cr
            by_cases hkn : k < n
            · have ck := hkRr.cell k
              rw [List.getElem?_map, tabL_at _ _ hkn, Option.map_some] at ck
              generalize (if k < k then ((fun v : Nat => (v : Int)) k) else 0) = old at *
              have fk := hkRr.frozen k
              have hkR2 := hkRr.set k (.int .i64 (k : Int))
              rw [← List.map_set, tabL_set (fun v : Nat => (v : Int)) hkn] at hkR2
              have hkr2 := hkrr.far (p := ⟨w6.heap.size, k, none⟩) (by simp) (.int .i64 (k : Int))
              have hb9 := hbr.setCell (p := ⟨w6.heap.size, k, none⟩) (Nat.le_refl _) (.int .i64 (k : Int))
              have HhkRr := Lib.hid hkRr; clear hkRr; have Hhkrr := Lib.hid hkrr; clear hkrr; have HhkR2 := Lib.hid hkR2; clear hkR2; have Hhkr2 := Lib.hid hkr2; clear hkr2; have Hhb9 := Lib.hid hb9; clear hb9
              go_wp2_with fail
              exact ⟨⟨k + 1, by omega, by simp, HhkR2.out, Hhkr2.out, Hhb9.out⟩, by simp [intOf]; omega⟩
            · obtain rfl : k = n := by omega
              obtain ⟨w7, hw7⟩ : ∃ w7, w7 = wr := ⟨_, rfl⟩
              subst hw7
              rw [tabL_full] at hkRr
              have hmf : ∀ (fn : Fn) (first cap : Array Value) (w : World), (Instr.makeFunc fn first cap).run Try.prog w = .ok (.func fn first cap) w := fun _ _ _ _ => rfl
              have hlr7 := hkrr.lt
              have hkR8 := hkRr.alloc (.cells #[.func (.func 25) #[] #[.pointer (some ⟨w6.heap.size + 1, 0, none⟩), .pointer (some ⟨w7.heap.size, 0, none⟩)]] 71)
              have hkr8 := hkrr.alloc (.cells #[.func (.func 25) #[] #[.pointer (some ⟨w6.heap.size + 1, 0, none⟩), .pointer (some ⟨w7.heap.size, 0, none⟩)]] 71)
              have hkf8 := Bk.new w7 71 [.func (.func 25) #[] #[.pointer (some ⟨w6.heap.size + 1, 0, none⟩), .pointer (some ⟨w7.heap.size, 0, none⟩)]]
              have hfw : FindW (w7.alloc (.cells #[.func (.func 25) #[] #[.pointer (some ⟨w6.heap.size + 1, 0, none⟩), .pointer (some ⟨w7.heap.size, 0, none⟩)]] 71)) (w6.heap.size + 1) w7.heap.size w6.heap.size ((List.range k).map fun v : Nat => (v : Int)) :=
                ⟨by rw [List.length_map, List.length_range]; exact hkr8.cell 0, hkf8.cell 0, hkR8, hkr8.lt, hkf8.lt⟩
              have hb10 := hbr.alloc hzr (.cells #[.func (.func 25) #[] #[.pointer (some ⟨w6.heap.size + 1, 0, none⟩), .pointer (some ⟨w7.heap.size, 0, none⟩)]] 71)
              have HhkRr := Lib.hid hkRr; clear hkRr; have Hhkrr := Lib.hid hkrr; clear hkrr; have HhkR8 := Lib.hid hkR8; clear hkR8; have Hhkr8 := Lib.hid hkr8; clear hkr8; have Hhkf8 := Lib.hid hkf8; clear hkf8; have Hhfw := Lib.hid hfw; clear hfw; have Hhb10 := Lib.hid hb10; clear hb10
              go_wp2_with fail
              have hGG : ∃ G, labP l = G := ⟨_, rfl⟩
              go_loopw [70] (fun i wr => ∃ (j : Nat) (R : List Int), j ≤ l.length ∧ i = .int .i64 (j : Int) ∧ Roots R (labE (edP (l.take j))) k ∧ FindW wr (w6.heap.size + 1) w7.heap.size w6.heap.size R ∧ Below w6.heap.size w6 wr) (fun i _ => l.length - (intOf i).toNat)
              case atStart => exact ⟨0, _, by omega, rfl, roots_id k, Hhfw.out, Hhb10.out⟩
              case round =>
                obtain ⟨j, R, hj, rfl, hR, hfwr, hbr2⟩ := hrel
                have hzr2 := hbr2.size
                by_cases hjl : j < l.length
                · obtain ⟨p, hp⟩ : ∃ p, l[j]? = some p := ⟨_, List.getElem?_eq_getElem hjl⟩
                  obtain ⟨b, o, rfl, hb, a1, a2, a3, a4⟩ := (Hhlw6.out.below keeps_4 (hbr2.mono hB6)).p4_at hp
                  have hv := Hhv4.out p (List.mem_of_getElem? hp)
                  have hlab := labE_take hp
                  obtain ⟨⟨x1, x2⟩, x3, x4⟩ := p
                  simp only [] at a1 a2 a3 a4 hv hlab
                  obtain ⟨⟨p1, q1⟩, ⟨p2, q2⟩, ⟨p3, q3⟩, p4, q4⟩ := hv
                  obtain ⟨n1, rfl⟩ : ∃ m : Nat, x1 = (m : Int) := ⟨x1.toNat, by omega⟩
                  obtain ⟨n2, rfl⟩ : ∃ m : Nat, x2 = (m : Int) := ⟨x2.toNat, by omega⟩
                  obtain ⟨n3, rfl⟩ : ∃ m : Nat, x3 = (m : Int) := ⟨x3.toNat, by omega⟩
                  obtain ⟨n4, rfl⟩ : ∃ m : Nat, x4 = (m : Int) := ⟨x4.toNat, by omega⟩
                  have hbw : b < wr.heap.size := by omega
                  have hLab := labE_lab (edP (l.take j))
                  have h0 := labE_nonneg (HhE0.out j)
                  generalize labE (edP (l.take j)) = L0 at *
                  have hfw1 := hfwr.below ((Below.refl wr.heap.size wr).alloc (Nat.le_refl _) (.cells #[.int .i64 (n1 : Int), .int .i64 (n2 : Int), .int .i64 (n3 : Int), .int .i64 (n4 : Int)] 49))
                  have hone := one_calls hR hLab h0 (w6.heap.size + 1) w7.heap.size w6.heap.size (by omega) (by omega) n1 n4 (by omega) (by omega) _ hfw1
                  have h0' : ∀ v, 0 ≤ v → 0 ≤ mrg L0 n1 n4 v := fun v hv => by
                    have i1 := h0 n1 p1
                    have i2 := h0 n4 p4
                    have i3 := h0 v hv
                    unfold mrg
                    split <;> omega
                  have hone2 := fun R1 (hR1 : Roots R1 (mrg L0 (n1 : Int) n4) k) wz (hz : FindW wz (w6.heap.size + 1) w7.heap.size w6.heap.size R1) => one_calls hR1 (hLab.mrg _ _) h0' (w6.heap.size + 1) w7.heap.size w6.heap.size (by omega) (by omega) n2 n3 (by omega) (by omega) wz hz
                  have hkp := Bk.new wr 49 [.int .i64 (n1 : Int), .int .i64 (n2 : Int), .int .i64 (n3 : Int), .int .i64 (n4 : Int)]
                  have hb11 := hbr2.alloc hzr2 (.cells #[.int .i64 (n1 : Int), .int .i64 (n2 : Int), .int .i64 (n3 : Int), .int .i64 (n4 : Int)] 49)
                  have hgl6 := hfwr.bk.lt
                  have hne6 : some wr.heap.size ≠ some w6.heap.size := fun h9 => by injection h9 with h9; omega
                  have HhR := Lib.hid hR; clear hR; have HhLab := Lib.hid hLab; clear hLab; have Hh0 := Lib.hid h0; clear h0; have Hh0' := Lib.hid h0'; clear h0'; have Hhfw1 := Lib.hid hfw1; clear hfw1; have Hhone := Lib.hid hone; clear hone; have Hhone2 := Lib.hid hone2; clear hone2; have Hhkp := Lib.hid hkp; clear hkp; have Hhb11 := Lib.hid hb11; clear hb11; have Hhlab := Lib.hid hlab; clear hlab
                  go_wp2_with fail
                  refine Hhone.out.mono ?_
                  rintro e w10 ⟨rfl, ⟨R1, hR1, hfw2⟩, hgr1⟩
                  have hkp1 := Hhkp.out.grown hgr1 hne6
                  have hb12 := Hhb11.out.grown hgr1 Hhb11.out.size (fun q hq => by cases hq; exact Nat.le_refl _)
                  have k0 : w10.cell? ⟨wr.heap.size, 0, none⟩ = some (.int .i64 (n1 : Int)) := hkp1.cell 0
                  have k1 : w10.cell? ⟨wr.heap.size, 1, none⟩ = some (.int .i64 (n2 : Int)) := hkp1.cell 1
                  have k2 : w10.cell? ⟨wr.heap.size, 2, none⟩ = some (.int .i64 (n3 : Int)) := hkp1.cell 2
                  have k3 : w10.cell? ⟨wr.heap.size, 3, none⟩ = some (.int .i64 (n4 : Int)) := hkp1.cell 3
                  have hsec := Hhone2.out R1 hR1 w10 hfw2
                  have HhR1 := Lib.hid hR1; clear hR1; have Hhfw2 := Lib.hid hfw2; clear hfw2; have Hhgr1 := Lib.hid hgr1; clear hgr1; have Hhkp1 := Lib.hid hkp1; clear hkp1; have Hhb12 := Lib.hid hb12; clear hb12; have Hhsec := Lib.hid hsec; clear hsec
                  go_wp2_with fail
                  refine Hhsec.out.mono ?_
                  rintro e w11 ⟨rfl, ⟨R2, hR2, hfw3⟩, hgr2⟩
                  have hb13 := Hhb12.out.grown hgr2 Hhb12.out.size (fun q hq => by cases hq; exact Nat.le_refl _)
                  rw [← Hhlab.out] at hR2
                  have HhR2 := Lib.hid hR2; clear hR2; have Hhfw3 := Lib.hid hfw3; clear hfw3; have Hhgr2 := Lib.hid hgr2; clear hgr2; have Hhb13 := Lib.hid hb13; clear hb13
                  go_wp2_with fail
                  exact ⟨⟨j + 1, R2, by omega, by simp, HhR2.out, Hhfw3.out, Hhb13.out⟩, by simp [intOf]; omega⟩
                · obtain rfl : j = l.length := by omega
                  rw [List.take_length] at hR
                  obtain ⟨w9, hw9⟩ : ∃ w9, w9 = wr := ⟨_, rfl⟩
                  subst hw9
                  have hLab := labE_lab (edP l)
                  have h0 := labE_nonneg (E := edP l) (by have := HhE0.out l.length; rwa [List.take_length] at this)
                  obtain ⟨G, hG⟩ := hGG
                  change labE (edP l) = G at hG
                  rw [hG] at hR hLab h0
                  have d0 : w9.cell? ⟨w.heap.size, 0, none⟩ = some (.int .i64 (k : Int)) := (hbr2.cell (p := ⟨w.heap.size, 0, none⟩) (by show w.heap.size < _; omega)).trans c06
                  have d1 : w9.cell? ⟨w.heap.size, 1, none⟩ = some (.slice A T.length cap) := (hbr2.cell (p := ⟨w.heap.size, 1, none⟩) (by show w.heap.size < _; omega)).trans c16
                  have hm1 := run_make_rep (P := Try.prog) 31 Try.underlying31 info_int rfl k (by omega) (by omega)
                  have hkO0 := Bk.new w9 3 (List.replicate k (.int .i64 0))
                  rw [List.toArray_replicate] at hkO0
                  have hkO := hkO0.alloc (.cells #[.int .i64 0, .slice none 0 0] 24)
                  have hkU := Bk.new' (n := w9.heap.size + 1) (w := w9.alloc (.cells (Array.replicate k (Value.int .i64 0)) 3)) 24 [.int .i64 0, .slice none 0 0] (by simp)
                  have hb14 := ((Below.refl w9.heap.size w9).alloc (Nat.le_refl _) (.cells (Array.replicate k (Value.int .i64 0)) 3)).alloc (by simp) (.cells #[.int .i64 0, .slice none 0 0] 24)
                  have hfw9 := hfwr.below hb14
                  have htz2 : (tabL (fun u => numL G (u : Int)) 0 k).map (Value.int .i64) = List.replicate k (.int .i64 0) := by rw [tabL_zero, List.map_replicate]
                  rw [← htz2] at hkO
                  clear hkO0
                  have HhR := Lib.hid hR; clear hR; have HhLab := Lib.hid hLab; clear hLab; have Hh0 := Lib.hid h0; clear h0; have Hhfwr := Lib.hid hfwr; clear hfwr; have Hhfw9 := Lib.hid hfw9; clear hfw9; have HhkO := Lib.hid hkO; clear hkO; have HhkU := Lib.hid hkU; clear hkU; have Hhb14 := Lib.hid hb14; clear hb14; have Hhtz2 := Lib.hid htz2; clear htz2; have HhG := Lib.hid hG; clear hG
                  go_wp2_with fail
                  clear hm1
                  go_loopw [97] (fun i wz => ∃ v : Nat, v ≤ k ∧ i = .int .i64 (v : Int) ∧ Bk wz w9.heap.size 3 ((tabL (fun u => numL G (u : Int)) v k).map (Value.int .i64)) ∧ Bk wz (w9.heap.size + 1) 24 [.int .i64 (rnk G v : Nat), .slice none 0 0] ∧ Below w9.heap.size w9 wz) (fun i _ => k - (intOf i).toNat)
                  case atStart => exact ⟨0, by omega, rfl, HhkO.out, HhkU.out, Hhb14.out⟩
                  case round =>
                    obtain ⟨v, hv, rfl, kO, kU, hbz⟩ := hrel
                    have hzz := hbz.size
                    have hUl := kU.lt
                    by_cases hvk : v < k
                    · have hcall := find_calls HhR.out (w6.heap.size + 1) w7.heap.size w6.heap.size v hvk
                      have hle := HhLab.out.le v
                      have hid := HhLab.out.idem v
                      have hge := Hh0.out v (by omega)
                      have hrs := rnk_succ G v
                      have hset := tabL_set (fun u => numL G (u : Int)) hvk
                      have hnv : numL G (v : Int) = ((rnk G (G (v : Int)).toNat : Nat) : Int) := rfl
                      obtain ⟨a, ha⟩ : ∃ a : Nat, G (v : Int) = a := ⟨(G v).toNat, by omega⟩
                      have hat := tabL_at (fun u => numL G (u : Int)) v (v := a) (n := k) (by omega)
                      have hna : numL G (a : Int) = numL G (v : Int) := by unfold numL; rw [← ha, hid]
                      rw [ha] at hcall hle hge hnv
                      rw [Int.toNat_natCast] at hnv
                      have hfz := Hhfwr.out.below hbz
                      have hcz := hcall wr hfz
                      have cfz := hfz.find
                      by_cases hav : a = v
                      · subst hav
                        rw [if_pos ha] at hrs
                        have hset2 : (tabL (fun u => numL G (u : Int)) a k).set a ((rnk G a : Nat) : Int) = tabL (fun u => numL G (u : Int)) (a + 1) k := by rw [← hnv]; exact hset
                        have hrs2 : ((rnk G (a + 1) : Nat) : Int) = ((rnk G a : Nat) : Int) + 1 := by rw [hrs]; rfl
                        have hab : ((a : Int) == (a : Int)) = true := beq_self_eq_true _
                        have hro : ((rnk G a : Nat) : Int) + 1 ≤ 5000 := by have := rnk_le G a; omega
                        clear hrs hnv hna hset
                        generalize rnk G a = rv at *
                        have HkO := Lib.hid kO; clear kO; have HkU := Lib.hid kU; clear kU; have Hhcz := Lib.hid hcz; clear hcz; have Hhfz := Lib.hid hfz; clear hfz; have Hhcall := Lib.hid hcall; clear hcall; have Hhat := Lib.hid hat; clear hat; have Hhset2 := Lib.hid hset2; clear hset2; have Hhrs2 := Lib.hid hrs2; clear hrs2; have Hha := Lib.hid ha; clear ha; have Hhid := Lib.hid hid; clear hid
                        go_wp2_with fail
                        refine Hhcz.out.mono ?_
                        rintro e w10 ⟨rfl, hb15⟩
                        have kO1 := HkO.out.below hb15 HkO.out.lt
                        have kU1 := HkU.out.below hb15 HkU.out.lt
                        have hbz1 := hbz.trans (hb15.mono hzz)
                        have cO := kO1.cell a
                        rw [List.getElem?_map, Hhat.out, Option.map_some] at cO
                        generalize (if a < a then numL G (a : Int) else 0) = old at *
                        have fO := kO1.frozen a
                        have fU := kU1.frozen 0
                        have cU : w10.cell? ⟨w9.heap.size + 1, 0, none⟩ = some (.int .i64 (rv : Int)) := kU1.cell 0
                        have kO2 := (kO1.set a (.int .i64 (rv : Int))).far (p := ⟨w9.heap.size + 1, 0, none⟩) (by simp) (.int .i64 ((rv : Int) + 1))
                        rw [← List.map_set, Hhset2.out] at kO2
                        have kU2 := (kU1.far (p := ⟨w9.heap.size, a, none⟩) (by simp) (.int .i64 (rv : Int))).set 0 (.int .i64 ((rv : Int) + 1))
                        have hbz2 := (hbz1.setCell (p := ⟨w9.heap.size, a, none⟩) (Nat.le_refl _) (.int .i64 (rv : Int))).setCell (p := ⟨w9.heap.size + 1, 0, none⟩) (Nat.le_succ _) (.int .i64 ((rv : Int) + 1))
                        have HkO1 := Lib.hid kO1; clear kO1; have HkU1 := Lib.hid kU1; clear kU1; have HkO2 := Lib.hid kO2; clear kO2; have HkU2 := Lib.hid kU2; clear kU2; have Hhbz2 := Lib.hid hbz2; clear hbz2
                        go_wp2_with fail
                        exact ⟨⟨a + 1, by omega, by simp, HkO2.out, by rw [Hhrs2.out]; exact HkU2.out, Hhbz2.out⟩, by simp [intOf]; omega⟩
                      · rw [if_neg (by rw [ha]; omega)] at hrs
                        have hal : a < v := by omega
                        rw [if_pos hal, hna] at hat
                        have hab : ((a : Int) == (v : Int)) = false := by rw [beq_eq_false_iff_ne]; omega
                        have hrs2 : rnk G (v + 1) = rnk G v := by omega
                        clear hrs hnv hna
                        generalize numL G (v : Int) = nv at *
                        have HkO := Lib.hid kO; clear kO; have HkU := Lib.hid kU; clear kU; have Hhcz := Lib.hid hcz; clear hcz; have Hhfz := Lib.hid hfz; clear hfz; have Hhcall := Lib.hid hcall; clear hcall; have Hhat := Lib.hid hat; clear hat; have Hhset := Lib.hid hset; clear hset; have Hhrs2 := Lib.hid hrs2; clear hrs2; have Hha := Lib.hid ha; clear ha; have Hhid := Lib.hid hid; clear hid
                        go_wp2_with fail
                        refine Hhcz.out.mono ?_
                        rintro e w10 ⟨rfl, hb15⟩
                        have kO1 := HkO.out.below hb15 HkO.out.lt
                        have kU1 := HkU.out.below hb15 HkU.out.lt
                        have hbz1 := hbz.trans (hb15.mono hzz)
                        have hz10 := hbz1.size
                        have hcz2 := Hhcall.out w10 (Hhfwr.out.below hbz1)
                        have cf := (Hhfwr.out.below hbz1).find
                        have HkO1 := Lib.hid kO1; clear kO1; have HkU1 := Lib.hid kU1; clear kU1; have Hhcz2 := Lib.hid hcz2; clear hcz2
                        go_wp2_with fail
                        refine Hhcz2.out.mono ?_
                        rintro e w11 ⟨rfl, hb16⟩
                        have kO2 := HkO1.out.below hb16 HkO1.out.lt
                        have kU2 := HkU1.out.below hb16 HkU1.out.lt
                        have hbz2 := hbz1.trans (hb16.mono hz10)
                        have cO := kO2.cell v
                        rw [List.getElem?_map, tabL_at _ _ hvk, Option.map_some] at cO
                        have cA := kO2.cell a
                        rw [List.getElem?_map, Hhat.out, Option.map_some] at cA
                        generalize (if v < v then (fun u : Nat => numL G (u : Int)) v else 0) = old at *
                        have fO := kO2.frozen v
                        have kO3 := kO2.set v (.int .i64 nv)
                        rw [← List.map_set, Hhset.out] at kO3
                        have kU3 := kU2.far (p := ⟨w9.heap.size, v, none⟩) (by simp) (.int .i64 nv)
                        have hbz3 := hbz2.setCell (p := ⟨w9.heap.size, v, none⟩) (Nat.le_refl _) (.int .i64 nv)
                        have HkO2 := Lib.hid kO2; clear kO2; have HkU2 := Lib.hid kU2; clear kU2; have HkO3 := Lib.hid kO3; clear kO3; have HkU3 := Lib.hid kU3; clear kU3; have Hhbz3 := Lib.hid hbz3; clear hbz3
                        go_wp2_with fail
                        exact ⟨⟨v + 1, by omega, by simp, HkO3.out, by rw [Hhrs2.out]; exact HkU3.out, Hhbz3.out⟩, by simp [intOf]; omega⟩
                    · obtain rfl : v = k := by omega
                      rw [tabL_full] at kO
                      change Bk wr w9.heap.size 3 ((sewOf G v).map (Value.int .i64)) at kO
                      obtain ⟨w12, hw12⟩ : ∃ w12, w12 = wr := ⟨_, rfl⟩
                      subst hw12
                      have e1 : w12.cell? ⟨w.heap.size, 1, none⟩ = some (.slice A T.length cap) := (hbz.cell (p := ⟨w.heap.size, 1, none⟩) (by show w.heap.size < _; omega)).trans d1
                      have hrv : rnk G v ≤ 4096 := Nat.le_trans (rnk_le G v) hn4
                      obtain ⟨rv, hrv2⟩ : ∃ rv, rnk G v = rv := ⟨_, rfl⟩
                      rw [hrv2] at kU hrv
                      have hTrng : ∀ t ∈ T, (0 ≤ t.1 ∧ t.1 < (v : Int)) ∧ (0 ≤ t.2.1 ∧ t.2.1 < (v : Int)) ∧ (0 ≤ t.2.2 ∧ t.2.2 < (v : Int)) := fun t ht => by
                        have := surf_tri Hhs.out t ht
                        rw [HhNn.out] at this
                        exact this
                      have HkO := Lib.hid kO; clear kO; have HkU := Lib.hid kU; clear kU; have Hhrv2 := Lib.hid hrv2; clear hrv2; have HhTrng := Lib.hid hTrng; clear hTrng
                      go_wp2_with fail
                      go_loopw [127] (fun i wz => ∃ (j : Nat) (r : Value), j ≤ T.length ∧ i = .int .i64 (j : Int) ∧ Bk wz (w9.heap.size + 1) 24 [.int .i64 (rv : Int), r] ∧ Bk wz w9.heap.size 3 ((sewOf G v).map (Value.int .i64)) ∧ wz.ownsRow w12.heap.size 43 3 r j (triVals (sewT G (T.take j))) ∧ Below w9.heap.size w9 wz ∧ w12.heap.size ≤ wz.heap.size) (fun i _ => T.length - (intOf i).toNat)
                      case atStart => exact ⟨0, _, by omega, rfl, HkU.out, HkO.out, World.ownsRow_nil _ _ _ _, hbz, Nat.le_refl _⟩
                      case round =>
                        obtain ⟨j, r, hj, rfl, bU, bO, hown, hbw, hzw⟩ := hrel
                        obtain ⟨A5, cap5, rfl, hc5⟩ := own_form hown
                        have u0 : wr.cell? ⟨w9.heap.size + 1, 0, none⟩ = some (.int .i64 (rv : Int)) := bU.cell 0
                        have u1 : wr.cell? ⟨w9.heap.size + 1, 1, none⟩ = some (.slice A5 j cap5) := bU.cell 1
                        have hUl2 := bU.lt
                        by_cases hjl2 : j < T.length
                        · obtain ⟨b, o, rfl, hb, t1, t2, t3⟩ := (((HhTw6.out.below keeps_tri (hbr2.mono hB6)).below keeps_tri (hbw.mono (by omega)))).tri_at hjl2
                          have hrT := HhTrng.out _ (List.getElem_mem hjl2)
                          have htk : triVals (sewT G (T.take (j + 1))) = triVals (sewT G (T.take j)) ++ [.int .i64 (numL G T[j].1), .int .i64 (numL G T[j].2.1), .int .i64 (numL G T[j].2.2)] := by
                            rw [List.take_succ_eq_append_getElem hjl2]
                            unfold sewT
                            rw [List.map_append, List.map_cons, List.map_nil, triVals_snoc]
                          generalize T[j] = x at *
                          obtain ⟨x1, x2, x3⟩ := x
                          simp only [] at t1 t2 t3 htk hrT
                          obtain ⟨⟨p1, q1⟩, ⟨p2, q2⟩, p3, q3⟩ := hrT
                          obtain ⟨n1, rfl⟩ : ∃ m : Nat, x1 = (m : Int) := ⟨x1.toNat, by omega⟩
                          obtain ⟨n2, rfl⟩ : ∃ m : Nat, x2 = (m : Int) := ⟨x2.toNat, by omega⟩
                          obtain ⟨n3, rfl⟩ : ∃ m : Nat, x3 = (m : Int) := ⟨x3.toNat, by omega⟩
                          have hat3 : ∀ m : Nat, m < v → wr.cell? ⟨w9.heap.size, m, none⟩ = some (.int .i64 (numL G (m : Int))) := fun m hm => by
                            rw [bO.cell m, List.getElem?_map]
                            unfold sewOf
                            rw [List.getElem?_map, List.getElem?_range hm]; rfl
                          have o1 := hat3 n1 (by omega)
                          have o2 := hat3 n2 (by omega)
                          have o3 := hat3 n3 (by omega)
                          generalize numL G (n1 : Int) = y1 at *
                          generalize numL G (n2 : Int) = y2 at *
                          generalize numL G (n3 : Int) = y3 at *
                          have hbwb : b < wr.heap.size := by omega
                          have hol : w9.heap.size < wr.heap.size := bO.lt
                          clear hat3
                          obtain ⟨wq, hwq⟩ : ∃ wq, wq = wr.alloc (.cells #[.int .i64 (n1 : Int), .int .i64 (n2 : Int), .int .i64 (n3 : Int)] 43) := ⟨_, rfl⟩
                          have hbq : Below wr.heap.size wr wq := by rw [hwq]; exact (Below.refl _ _).alloc (Nat.le_refl _) _
                          have hkq : Bk wq wr.heap.size 43 [.int .i64 (n1 : Int), .int .i64 (n2 : Int), .int .i64 (n3 : Int)] := by rw [hwq]; exact Bk.new wr _ _
                          have hzq : wr.heap.size < wq.heap.size := by rw [hwq]; simp
                          have qU := bU.below hbq hUl2
                          have qO := bO.below hbq hol
                          have hownq := own_below hown hbq (Nat.le_refl _)
                          have hbwq := hbw.trans (hbq.mono (by omega))
                          have HbU := Lib.hid bU; clear bU; have HbO := Lib.hid bO; clear bO; have Hhown := Lib.hid hown; clear hown; have Hhtk := Lib.hid htk; clear htk; have HqU := Lib.hid qU; clear qU; have HqO := Lib.hid qO; clear qO; have Hhownq := Lib.hid hownq; clear hownq; have Hhkq := Lib.hid hkq; clear hkq
                          go_wp2_with fail
                          rw [← hwq]
                          have q0 : wq.cell? ⟨w9.heap.size + 1, 0, none⟩ = some (.int .i64 (rv : Int)) := HqU.out.cell 0
                          have q1' : wq.cell? ⟨w9.heap.size + 1, 1, none⟩ = some (.slice A5 j cap5) := HqU.out.cell 1
                          have r1 := (hbq.cell (p := ⟨w9.heap.size, n1, none⟩) hol).trans o1
                          have r2 := (hbq.cell (p := ⟨w9.heap.size, n2, none⟩) hol).trans o2
                          have r3 := (hbq.cell (p := ⟨w9.heap.size, n3, none⟩) hol).trans o3
                          have s1 : wq.cell? ⟨wr.heap.size, 0, none⟩ = some (.int .i64 (n1 : Int)) := Hhkq.out.cell 0
                          have s2 : wq.cell? ⟨wr.heap.size, 1, none⟩ = some (.int .i64 (n2 : Int)) := Hhkq.out.cell 1
                          have s3 : wq.cell? ⟨wr.heap.size, 2, none⟩ = some (.int .i64 (n3 : Int)) := Hhkq.out.cell 2
                          clear hwq
                          refine Go.Canon.wp_region_last 21 [1] (fun b => b = w9.heap.size + 1) (.seg [0,1,2,3,4,5,6,7,8,9,10,11,12,13,14,15,16,17] (.alt 18 (.alt 19 (.seg [20] (.alt 21 .fin .no)) .no) .no)) mixed (by kernel_rfl) ?_
                          refine Go.Canon.trm_seg ?_
                          simp only [List.map_cons, List.map_nil, List.getD_cons_zero, List.getD_cons_succ]
                          go_wp2_with fail
                          refine Go.Canon.trm_to (Go.Canon.trm_one ?_)
                          simp only [List.getD_cons_zero, List.getD_cons_succ]
                          go_wp2_with fail
                          refine Go.Canon.trm_end (fun b h9 => by subst h9; exact Below.heap_alloc wq _ _ HqU.out.lt) (Go.Canon.trm_one ?_)
                          simp only [List.getD_cons_zero, List.getD_cons_succ]
                          refine append_block _ rfl _ _ 22 rfl w12.heap.size infoTri Try.underlying22 rfl (by decide) _ j _ rfl ((own_below Hhownq.out (Below.refl _ wq).drew (Nat.le_refl _)).alloc _) wq.heap.size [.int .i64 y1, .int .i64 y2, .int .i64 y3] rfl (Bk.new wq.drew 43 _) rfl (by simp [Value.oneCell']) (by omega) (by decide) (by simp only [World.size_alloc, World.size_drew]; omega) ?_
                          intro v' w15 hown5 hb5 hgrow _
                          obtain ⟨g5, cap6, rfl⟩ := ownsRow_succ hown5
                          have hl5 : ∀ g, g < w12.heap.size → some g ≠ (Value.slice A5 j cap5).ownBlock := fun g hg e => by have := (Hhownq.out.lt g e.symm).1; omega
                          have hl6 : ∀ g, g < w12.heap.size → (Value.slice (some ⟨g5, 0, none⟩) (j + 1) cap6).ownBlock ≠ some g := fun g hg e => by have := (hown5.lt g e).1; omega
                          have b2_5 := (HqU.out.drew.alloc (.cells #[.int .i64 y1, .int .i64 y2, .int .i64 y3] 43)).grown hgrow (hl5 _ (by omega))
                          have b1_5 := (HqO.out.drew.alloc (.cells #[.int .i64 y1, .int .i64 y2, .int .i64 y3] 43)).grown hgrow (hl5 _ (by omega))
                          have hke : Go.Canon.KeepU (fun b => b = w9.heap.size + 1) wq.drew w15 := fun b h9 => by subst h9; exact b2_5.trans HqU.out.symm
                          have e5 := b2_5.cell 1
                          have f5 := b2_5.frozen 1
                          have hz5 := hb5.size
                          have b2_6 := b2_5.set 1 (.slice (some ⟨g5, 0, none⟩) (j + 1) cap6)
                          have b1_6 := b1_5.far (p := ⟨w9.heap.size + 1, 1, none⟩) (by simp only; omega) (.slice (some ⟨g5, 0, none⟩) (j + 1) cap6)
                          have hown6 := hown5.kept (row := some (w9.heap.size + 1)) (w' := w15.setCell ⟨w9.heap.size + 1, 1, none⟩ (.slice (some ⟨g5, 0, none⟩) (j + 1) cap6)) ⟨rfl, rfl, rfl, (KeepsWalks.setCell w15 _ _).size, fun b _ hb => Below.heap_setCell _ _ _ b (fun e => hb (by rw [e]))⟩ (.inr (hl6 _ (by omega)))
                          have hbel6 := ((hbwq.drew.alloc (by simp only [World.size_drew]; omega) (.cells #[.int .i64 y1, .int .i64 y2, .int .i64 y3] 43)).trans (hb5.mono (by omega))).setCell (p := ⟨w9.heap.size + 1, 1, none⟩) (by show w9.heap.size ≤ w9.heap.size + 1; omega) (.slice (some ⟨g5, 0, none⟩) (j + 1) cap6)
                          simp only [World.size_alloc, World.size_drew] at hz5
                          have Hhown5 := Lib.hid hown5; have Hb2_5 := Lib.hid b2_5; have Hb1_5 := Lib.hid b1_5; have Hb2_6 := Lib.hid b2_6; have Hb1_6 := Lib.hid b1_6; have Hhown6 := Lib.hid hown6; have Hhbel6 := Lib.hid hbel6; have Hhl5 := Lib.hid hl5; have Hhl6 := Lib.hid hl6; have Hhgrow := Lib.hid hgrow; clear hown5 b2_5 b1_5 b2_6 b1_6 hown6 hbel6 hl5 hl6 hgrow
                          refine Go.Canon.trm_end hke (Go.Canon.trm_seg ?_)
                          simp only [List.map_cons, List.map_nil, List.getD_cons_zero, List.getD_cons_succ]
                          go_wp2_with fail
                          refine Go.Canon.trm_to (Go.Canon.trm_one ?_)
                          simp only [List.getD_cons_zero, List.getD_cons_succ]
                          go_wp2_with fail
                          refine Go.Canon.trm_last (Go.Canon.trm_fin (by rfl) (List.forall_mem_cons.2 ⟨.inl ⟨_, rfl, rfl, by rw [World.cell?_drew, q1']; rfl⟩, fun _ h => by cases h⟩) ?_)
                          go_wp2_with fail
                          refine ⟨⟨j + 1, _, by omega, by simp, Hb2_6.out, Hb1_6.out, by rw [Hhtk.out]; exact Hhown6.out, Hhbel6.out, ?_⟩, by simp [intOf]; omega⟩
                          have h8 := (KeepsWalks.setCell w15 ⟨w9.heap.size + 1, 1, none⟩ (.slice (some ⟨g5, 0, none⟩) (j + 1) cap6)).size
                          omega
                        · obtain rfl : j = T.length := by omega
                          rw [List.take_length] at hown
                          have hlen9 : (sewT G T).length = T.length := by unfold sewT; rw [List.length_map]
                          have hsl := sl_own_tris (T := sewT G T) (by rw [hlen9]; exact hown)
                          obtain ⟨w16, hw16⟩ : ∃ w16, w16 = wr := ⟨_, rfl⟩
                          subst hw16
                          have hci2 := certis_calls (.slice A5 T.length cap5) (rv : Int) (sewT G T) w16 (Nat.le_refl _) hsl (I64.nat (by omega))
                          have hkr6 := (Hhk26.out.below hbr2 (by omega)).below hbw (by omega)
                          have hbel9 := (hbel6.trans (hbr2.mono hbel6.size)).trans (hbw.mono (by omega))
                          have HbU := Lib.hid bU; clear bU; have HbO := Lib.hid bO; clear bO; have Hhown := Lib.hid hown; clear hown; have Hhci2 := Lib.hid hci2; clear hci2; have Hhsl := Lib.hid hsl; clear hsl
                          go_wp2_with fail
                          refine Hhci2.out.mono ?_
                          rintro e w17 ⟨⟨b, rfl, hb⟩, hb18⟩
                          have hkr7 := hkr6.below hb18 (by have := hkr6.lt; exact this)
                          have hbel10 := below_call hbel9 hb18 hbel9.size
                          have f1 := hkr7.frozen
                          have g0 : w17.cell? ⟨w.heap.size + 1, 0, none⟩ = some (.int .i64 0) := hkr7.cell 0
                          have g1 : w17.cell? ⟨w.heap.size + 1, 1, none⟩ = some (.slice none 0 0) := hkr7.cell 1
                          have hN9 : N.toNat = v := by have := HhNn.out; omega
                          cases b with
                          | false =>
                            have hn : ¬ Surf (rv : Int) (sewT G T) := fun h => by have := hb.2 h; cases this
                            have hbf := (hbel10.setCell (p := ⟨w.heap.size + 1, 0, none⟩) (by simp) (.int .i64 0)).setCell (p := ⟨w.heap.size + 1, 1, none⟩) (by simp) (.slice none 0 0)
                            have hkf := (hkr7.set 0 (.int .i64 0)).set 1 (.slice none 0 0)
                            have Hhb := Lib.hid hb; clear hb; have Hhn := Lib.hid hn; clear hn; have Hhbf := Lib.hid hbf; clear hbf; have Hhkf := Lib.hid hkf; clear hkf; have Hhkr6 := Lib.hid hkr6; clear hkr6; have Hhkr7 := Lib.hid hkr7; clear hkr7; have HhN9 := Lib.hid hN9; clear hN9
                            go_wp2_with fail
                            refine ret_ctt rfl rfl Hhkf.out Try.underlying24 rfl (by kernel_rfl) rfl ⟨⟨_, _, _, rfl, .inr (.inr (.inl ⟨Hhs.out, ?_, ?_, rfl, rfl, rfl⟩)), fun h9 => (by cases h9)⟩, Hhbf.out⟩
                            · rw [HhL.out]; exact Hhpz.out
                            · unfold labP
                              rw [HhG.out, HhN9.out, Hhrv2.out]; exact Hhn.out
                          | true =>
                            have hsf := hb.1 rfl
                            have z0 := (hb18.cell (p := ⟨w9.heap.size + 1, 0, none⟩) hUl2).trans u0
                            have z1 := (hb18.cell (p := ⟨w9.heap.size + 1, 1, none⟩) hUl2).trans u1
                            have hset : ∀ (wz : World) (i : Nat) (u : Value), wz.grownBy (wz.setCell ⟨w.heap.size + 1, i, none⟩ u) (some (w.heap.size + 1)) := fun wz i u => ⟨rfl, rfl, rfl, (KeepsWalks.setCell wz _ u).size, fun b _ hb => Below.heap_setCell _ _ _ b (fun e => hb (by rw [e]))⟩
                            have hl9 : (Value.slice A5 T.length cap5).ownBlock = none ∨ (Value.slice A5 T.length cap5).ownBlock ≠ some (w.heap.size + 1) := .inr fun e => by have := (Hhown.out.lt _ e).1; omega
                            have hown18 := ((own_below Hhown.out hb18 (Nat.le_refl _)).kept (hset w17 0 (.int .i64 (rv : Int))) hl9).kept (hset _ 1 (.slice A5 T.length cap5)) hl9
                            have hne9 : w9.heap.size ≠ w.heap.size + 1 := by omega
                            have kO18 := ((HbO.out.below hb18 HbO.out.lt).far (p := ⟨w.heap.size + 1, 0, none⟩) hne9 (.int .i64 (rv : Int))).far (p := ⟨w.heap.size + 1, 1, none⟩) hne9 (.slice A5 T.length cap5)
                            have hbf := (hbel10.setCell (p := ⟨w.heap.size + 1, 0, none⟩) (by simp) (.int .i64 (rv : Int))).setCell (p := ⟨w.heap.size + 1, 1, none⟩) (by simp) (.slice A5 T.length cap5)
                            have hkf := (hkr7.set 0 (.int .i64 (rv : Int))).set 1 (.slice A5 T.length cap5)
                            have hsl18 := sl_own_tris (T := sewT G T) (by rw [hlen9]; exact hown18)
                            have hsO := sl_zv kO18
                            have hlO : (sewOf G v).length = v := by unfold sewOf; simp
                            rw [hlO] at hsO
                            clear hset hl9
                            have Hhb := Lib.hid hb; clear hb; have Hhsf := Lib.hid hsf; clear hsf; have Hhbf := Lib.hid hbf; clear hbf; have Hhkf := Lib.hid hkf; clear hkf; have Hhkr6 := Lib.hid hkr6; clear hkr6; have Hhkr7 := Lib.hid hkr7; clear hkr7; have HhN9 := Lib.hid hN9; clear hN9; have Hhown18 := Lib.hid hown18; clear hown18; have HkO18 := Lib.hid kO18; clear kO18; have Hhsl18 := Lib.hid hsl18; clear hsl18; have HhsO := Lib.hid hsO; clear hsO; have HhlO := Lib.hid hlO; clear hlO; have Hhlen9 := Lib.hid hlen9; clear hlen9
                            go_wp2_with fail
                            refine ret_ctt rfl rfl Hhkf.out Try.underlying24 rfl (by kernel_rfl) rfl ⟨⟨_, _, _, rfl, .inr (.inr (.inr ⟨Hhs.out, ?_, ?_, rfl, .slice A5 T.length cap5, ?_, ?_, ?_⟩)), fun _ wz hwz => ⟨.slice A5 T.length cap5, ?_, ?_, ?_⟩⟩, Hhbf.out⟩
                            · rw [HhL.out]; exact Hhpz.out
                            · unfold labP
                              rw [HhG.out, HhN9.out, Hhrv2.out]; exact Hhsf.out
                            · unfold labP
                              rw [HhG.out, HhN9.out, Hhrv2.out]; rfl
                            · unfold labP
                              rw [HhG.out]; exact Hhsl18.out
                            · unfold labP
                              rw [HhG.out, HhN9.out]; exact HhsO.out
                            · unfold labP
                              rw [HhG.out, HhN9.out, Hhrv2.out]; rfl
                            · unfold labP
                              rw [HhG.out]
                              exact sl_own_tris (T := sewT G T) (by rw [Hhlen9.out]; exact own_from Hhown18.out fun b h1 h2 => hwz b (by omega) h2)
                            · unfold labP
                              rw [HhG.out, HhN9.out]
                              have := sl_zv (w := wz) (g := w9.heap.size) (t := 3) (l := sewOf G v) ((hwz w9.heap.size (by omega) HkO18.out.lt).trans HkO18.out)
                              rw [HhlO.out] at this
                              exact this
        · have hcb : (c != 0) = true := bne_iff_ne.2 hc0
          have f1 := hk26.frozen
          have e0 : w6.cell? ⟨w.heap.size + 1, 0, none⟩ = some (.int .i64 0) := hk26.cell 0
          have e1 : w6.cell? ⟨w.heap.size + 1, 1, none⟩ = some (.slice none 0 0) := hk26.cell 1
          have hbf := (hbel6.setCell (p := ⟨w.heap.size + 1, 0, none⟩) (by simp) (.int .i64 0)).setCell (p := ⟨w.heap.size + 1, 1, none⟩) (by simp) (.slice none 0 0)
          have hkf := (hk26.set 0 (.int .i64 0)).set 1 (.slice none 0 0)
          have Hhk16 := Lib.hid hk16; clear hk16; have Hhk26 := Lib.hid hk26; clear hk26; have Hhbf := Lib.hid hbf; clear hbf; have Hhkf := Lib.hid hkf; clear hkf
          go_wp2_with fail
          refine ret_ctt rfl rfl Hhkf.out Try.underlying24 rfl (by kernel_rfl) rfl ⟨⟨_, _, _, rfl, .inr (.inl ⟨Hhs.out, ?_, hc0, rfl, rfl⟩), fun h9 => absurd h9 hc0⟩, Hhbf.out⟩
          rw [HhL.out]; exact Hhc.out.symm
theorem sew_calls {w : World} {B : Nat} {sv lv : Value} {N : Int} {T : List T3} {l : List P4} (hT : Sl 3 RTri w B sv T) (hl : Sl 4 R4 w B lv l) (hB0 : B ≤ w.heap.size) (hN : I64 N) (hll : l.length ≤ 1000000) (hok : ∀ e ∈ edgs l, ok2 e) :
    Calls Try.prog 9 #[.agg #[.int .i64 N, sv], lv] w fun e w' => (∃ (x o : Value) (c : Int), e = .returned (.tuple #[x, o, .int .i64 c]) ∧ SewEnd w' N T l x o c) ∧ Below w.heap.size w w' :=
  (sew_calls2 hT hl hB0 hN hll hok).mono fun _ _ ⟨⟨x, o, c, h1, h2, _⟩, h4⟩ => ⟨⟨x, o, c, h1, h2⟩, h4⟩
end Go.Proofs.Ytpbdcppaiafbgaa
