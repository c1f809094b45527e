/- Walks: bay's Grow. -/
import Derived.Test.YtpmmjjbllmeneaaDG
namespace Go.Mesh
/-- What is wrong with the first k seeds: 2 one is out of bounds, 9 one is told twice. -/
def badE (n : Nat) (l : List Int) : Nat → Option Int
  | 0 => none
  | k + 1 => match badE n l k with
    | some e => some e
    | none => if l.getD k 0 < 0 ∨ (n : Int) ≤ l.getD k 0 then some 2 else if l.getD k 0 ∈ l.take k then some 9 else none
/-- The error's number, and the bays. -/
def growE (T : List T3) (l : List Int) : Int := if 256 < l.length then 7 else match badE T.length l l.length with
  | some e => e
  | none => if (-1 : Int) ∈ nearL T (l.map Int.toNat) then 8 else 0
def growL (T : List T3) (l : List Int) : List Int := if growE T l = 0 then nearL T (l.map Int.toNat) else []
theorem take_getD {l : List Int} {k : Nat} (h : k < l.length) : l.take (k + 1) = l.take k ++ [l.getD k 0] := by
  rw [List.take_succ_eq_append_getElem h, List.getD_eq_getElem?_getD, List.getElem?_eq_getElem h]; rfl
theorem badE_none {n : Nat} {l : List Int} : ∀ {k : Nat}, k ≤ l.length → badE n l k = none → (∀ s ∈ l.take k, 0 ≤ s ∧ s < n) ∧ (l.take k).Nodup
  | 0, _, _ => by simp
  | k + 1, hk, h => by
    unfold badE at h
    cases hb : badE n l k with
    | some e => rw [hb] at h; cases h
    | none =>
      rw [hb] at h
      simp only [] at h
      obtain ⟨h1, h2⟩ := badE_none (by omega) hb
      split at h
      · cases h
      · rename_i h3
        split at h
        · cases h
        · rename_i h4
          rw [take_getD (by omega)]
          refine ⟨fun s hs => ?_, List.nodup_append.2 ⟨h2, by simp, fun a ha b hb e => by
            rw [List.mem_singleton] at hb
            subst hb; subst e
            exact h4 ha⟩⟩
          rcases List.mem_append.1 hs with h5 | h5
          · exact h1 s h5
          · rw [List.mem_singleton.1 h5]; omega
theorem nodup_map_toNat {l : List Int} (h1 : ∀ s ∈ l, 0 ≤ s) (h2 : l.Nodup) : (l.map Int.toNat).Nodup := nodup_inj h2 fun a ha b hb e => by have := h1 a ha; have := h1 b hb; omega
theorem map_toNat_cast {l : List Int} (h1 : ∀ s ∈ l, 0 ≤ s) : (l.map Int.toNat).map (fun n : Nat => (n : Int)) = l := by
  rw [List.map_map]
  conv => rhs; rw [← List.map_id l]
  exact List.map_congr_left fun s hs => Int.toNat_of_nonneg (h1 s hs)
end Go.Mesh
namespace Go.Proofs.Ytpmmjjbllmeneaa
open Go Go.RowKit Go.Words Go.Mesh

theorem grow_nil (sv : Value) (w : World) : Calls Try.prog 16 #[.pointer none, sv] w fun e w' => e = .returned (.tuple #[.slice none 0 0, .int .i64 1]) ∧ w' = w := by
  go_enter Try.func16, Try.ntmps16
  go_wp2_with fail
  go_ret2
  exact ⟨rfl, rfl⟩
/-- What Grow hands back. -/
def GrowOut (w' : World) (T : List T3) (l : List Int) (e : Ending) : Prop := ∃ r, e = .returned (.tuple #[r, .int .i64 (growE T l)]) ∧ Sl 1 RInt w' w'.heap.size r (growL T l)
theorem sl_bk {w : World} {g : Nat} {l : List Int} (h : Bk w g 3 (ivals l)) : Sl 1 RInt w w.heap.size (.slice (some ⟨g, 0, none⟩) l.length l.length) l :=
  Sl.of_block h (Nat.le_refl _) fun i a hi => by
    have hl := (List.getElem?_eq_some_iff.1 hi).1
    have hvl : (ivals l).length = l.length := List.length_map _
    refine ⟨by omega, ?_⟩
    unfold RInt
    rw [Nat.mul_one, List.drop_eq_getElem_cons (by omega)]
    simp only [List.take_succ_cons, List.take_zero]
    have := ivals_at hi
    rw [List.getElem?_eq_getElem (by omega)] at this
    rw [Option.some.inj this]
set_option maxRecDepth 40000 in
set_option maxHeartbeats 2000000 in
theorem grow_calls {w : World} {B B2 : Nat} {tv sv : Value} {N : Int} {T : List T3} {l : List Int} (h : Tab w B tv N T) (hs : Surf N T) (hB : B2 ≤ w.heap.size) (hS : Sl 1 RInt w B2 sv l) (hl : l.length ≤ 1000000) :
    Calls Try.prog 16 #[tv, sv] w fun e w' => GrowOut w' T l e ∧ Below w.heap.size w w' := by
  have htr := fun wz (hz : Below w.heap.size w wz) => tab_tris (h.below hz h.le)
  have hfar := fun wz (hz : Below w.heap.size w wz) sv B2 S h1 h2 h3 h4 => far_calls (S := S) (sv := sv) (B2 := B2) (h.below hz h.le) hs h1 h2 h3 h4
  obtain ⟨g, rfl⟩ : ∃ g, tv = .pointer (some ⟨g, 0, none⟩) := by
    obtain ⟨g, _, _, _, _, _, rfl, _⟩ := h
    exact ⟨_, rfl⟩
  have hfew := hs.tmax
  obtain ⟨A, cap, rfl, hcap⟩ := hS.form
  by_cases h256 : 256 < l.length
  case pos =>
    have he : growE T l = 7 := by unfold growE; rw [if_pos h256]
    have hgl : growL T l = [] := by unfold growL; rw [he]; rfl
    have h256i : 256 < (l.length : Int) := by omega
    clear h256
    have Hh := Lib.hid h; clear h; have Hhtr := Lib.hid htr; clear htr; have Hhfar := Lib.hid hfar; clear hfar; have Hhs := Lib.hid hs; clear hs; have HhS := Lib.hid hS; clear hS
    go_enter Try.func16, Try.ntmps16
    go_wp2_with fail
    go_ret2
    exact ⟨⟨.slice none 0 0, by rw [he]; rfl, by rw [hgl]; exact Sl.nil _ _⟩, Below.refl _ _⟩
  case neg =>
    have h256i : (l.length : Int) ≤ 256 := by omega
    have hnew : Mp enc1 I64 (fun _ : Unit => .bool true) (w.alloc (.map #[] 0)) w.heap.size ([] : List (Int × Unit)) := Mp.new w
    have hb1 := (Below.refl w.heap.size w).alloc (Nat.le_refl _) (.map #[] 0)
    have hmm := @run_makeMap Try.prog
    have herr : ∀ k e, k < l.length → badE T.length l (k + 1) = some e → growE T l = e ∧ (e = 0 ∨ growL T l = []) := fun k e hk h9 => by
      have hmono : ∀ j, k + 1 ≤ j → badE T.length l j = some e := fun j hj => by
        induction j with
        | zero => omega
        | succ j ih =>
          by_cases hjk : j + 1 = k + 1
          · rw [hjk]; exact h9
          · rw [badE, ih (by omega)]
      have e1 : growE T l = e := by unfold growE; rw [if_neg h256, hmono _ (by omega)]
      refine ⟨e1, ?_⟩
      by_cases h0 : e = 0
      · exact .inl h0
      · refine .inr ?_
        unfold growL
        rw [e1, if_neg h0]
    have hok : badE T.length l l.length = none → growE T l = if (-1 : Int) ∈ nearL T (l.map Int.toNat) then 8 else 0 := fun h9 => by unfold growE; rw [if_neg h256, h9]
    generalize hw0 : w.alloc (.map #[] 0) = w0 at *
    have Hh := Lib.hid h; clear h; have Hhtr := Lib.hid htr; clear htr; have Hhfar := Lib.hid hfar; clear hfar; have Hhs := Lib.hid hs; clear hs; have HhS := Lib.hid hS; clear hS; have Hhnew := Lib.hid hnew; clear hnew; have Hherr := Lib.hid herr; clear herr; have Hhok := Lib.hid hok; clear hok; have Hh256 := Lib.hid h256; clear h256
    go_enter Try.func16, Try.ntmps16
    go_wp2_with fail
    clear hw0 hmm
    go_loopw [19] (fun iv wr => ∃ (k : Nat) (lm : List (Int × Unit)), k ≤ l.length ∧ iv = .int .i64 (k : Int) ∧ badE T.length l k = none ∧ Mp enc1 I64 (fun _ : Unit => .bool true) wr w.heap.size lm ∧ (∀ x : Int, (Words.look lm x).isSome = true ↔ x ∈ l.take k) ∧ Below w.heap.size w wr) (fun iv _ => l.length - (intOf iv).toNat)
    case atStart => exact ⟨0, [], by omega, rfl, rfl, Hhnew.out, fun x => by simp [Words.look], hb1⟩
    case round =>
      obtain ⟨k, lm, hk, rfl, hbad, hmp, hlook, hbel⟩ := hrel
      obtain ⟨w1, hw1⟩ : ∃ w1, w1 = wr := ⟨_, rfl⟩
      subst hw1
      have hz1 := hbel.size
      by_cases hkl : k < l.length
      · obtain ⟨b, o, rfl, hb, c1⟩ := (HhS.out.below keeps_int (hbel.mono hB)).int_at hkl
        have hst : badE T.length l (k + 1) = if l.getD k 0 < 0 ∨ (T.length : Int) ≤ l.getD k 0 then some 2 else if l.getD k 0 ∈ l.take k then some 9 else none := by rw [badE, hbad]
        have htk := take_getD hkl
        have hgd : l.getD k 0 = l[k] := by rw [List.getD_eq_getElem?_getD, List.getElem?_eq_getElem hkl]; rfl
        rw [← hgd] at c1
        clear hgd
        have her := Hherr.out k
        have htr1 := Hhtr.out w1 hbel
        generalize l.getD k 0 = s at *
        by_cases hneg : s < 0
        · rw [if_pos (.inl hneg)] at hst
          obtain ⟨e1, e2⟩ := her 2 hkl hst
          have e2 := e2.resolve_left (by omega)
          have Hhbad := Lib.hid hbad; clear hbad; have Hhmp := Lib.hid hmp; clear hmp; have Hhlook := Lib.hid hlook; clear hlook; have Hhst := Lib.hid hst; clear hst; have Hhtk := Lib.hid htk; clear htk; have Hher := Lib.hid her; clear her; have Hhtr1 := Lib.hid htr1; clear htr1; have He1 := Lib.hid e1; clear e1; have He2 := Lib.hid e2; clear e2
          go_wp2_with fail
          go_ret2
          exact ⟨⟨.slice none 0 0, by rw [He1.out]; rfl, by rw [He2.out]; exact Sl.nil _ _⟩, hbel⟩
        · by_cases hbig : (T.length : Int) ≤ s
          · rw [if_pos (.inr hbig)] at hst
            obtain ⟨e1, e2⟩ := her 2 hkl hst
            have e2 := e2.resolve_left (by omega)
            have Hhbad := Lib.hid hbad; clear hbad; have Hhmp := Lib.hid hmp; clear hmp; have Hhlook := Lib.hid hlook; clear hlook; have Hhst := Lib.hid hst; clear hst; have Hhtk := Lib.hid htk; clear htk; have Hher := Lib.hid her; clear her; have Hhtr1 := Lib.hid htr1; clear htr1; have He1 := Lib.hid e1; clear e1; have He2 := Lib.hid e2; clear e2
            go_wp2_with fail
            refine Hhtr1.out.mono ?_
            rintro e w2 ⟨rfl, rfl⟩
            go_wp2_with fail
            go_ret2
            exact ⟨⟨.slice none 0 0, by rw [He1.out]; rfl, by rw [He2.out]; exact Sl.nil _ _⟩, hbel⟩
          · rw [if_neg (by omega)] at hst
            have hsI : I64 s := by unfold I64; omega
            by_cases hin : s ∈ l.take k
            · rw [if_pos hin] at hst
              obtain ⟨e1, e2⟩ := her 9 hkl hst
              have e2 := e2.resolve_left (by omega)
              have hlk : ((Words.look lm s).map (fun _ : Unit => Value.bool true)).getD (.bool false) = .bool true := by
                obtain ⟨y, hy⟩ := Option.isSome_iff_exists.1 ((hlook s).2 hin)
                rw [hy]; rfl
              have Hhbad := Lib.hid hbad; clear hbad; have Hhmp := Lib.hid hmp; clear hmp; have Hhlook := Lib.hid hlook; clear hlook; have Hhst := Lib.hid hst; clear hst; have Hhtk := Lib.hid htk; clear htk; have Hher := Lib.hid her; clear her; have Hhtr1 := Lib.hid htr1; clear htr1; have He1 := Lib.hid e1; clear e1; have He2 := Lib.hid e2; clear e2; have Hhin := Lib.hid hin; clear hin
              go_wp2_with fail
              refine Hhtr1.out.mono ?_
              rintro e w2 ⟨rfl, rfl⟩
              go_wp2_with (refine wpList_look _ rfl _ _ 59 rfl 3 4 keyI Try.underlying59 zero_bool w.heap.size lm rfl Hhmp.out s rfl hsI ?_; rw [hlk])
              go_ret2
              exact ⟨⟨.slice none 0 0, by rw [He1.out]; rfl, by rw [He2.out]; exact Sl.nil _ _⟩, hbel⟩
            · rw [if_neg hin] at hst
              have hlk : ((Words.look lm s).map (fun _ : Unit => Value.bool true)).getD (.bool false) = .bool false := by
                cases hy : Words.look lm s with
                | none => rfl
                | some y => exact absurd ((hlook s).1 (by rw [hy]; rfl)) hin
              have hlook2 : ∀ x : Int, (Words.look (Words.put lm s ()) x).isSome = true ↔ x ∈ l.take (k + 1) := fun x => by
                rw [look_put, htk, List.mem_append, List.mem_singleton]
                by_cases hsx : s = x
                · rw [if_pos hsx]; simp [hsx]
                · rw [if_neg hsx, hlook x]
                  exact ⟨.inl, fun h9 => h9.elim id fun h8 => absurd h8.symm hsx⟩
              have Hhbad := Lib.hid hbad; clear hbad; have Hhmp := Lib.hid hmp; clear hmp; have Hhlook := Lib.hid hlook; clear hlook; have Hhst := Lib.hid hst; clear hst; have Hhtk := Lib.hid htk; clear htk; have Hher := Lib.hid her; clear her; have Hhtr1 := Lib.hid htr1; clear htr1; have Hhin := Lib.hid hin; clear hin; have Hhlook2 := Lib.hid hlook2; clear hlook2
              go_wp2_with fail
              refine Hhtr1.out.mono ?_
              rintro e w2 ⟨rfl, rfl⟩
              go_wp2_with (first | (at_mapUpdate; refine wpList_put _ rfl _ _ _ 59 rfl 3 4 keyI Try.underlying59 w.heap.size lm rfl Hhmp.out s rfl hsI () rfl ?_; intro w3 hmp3 hgr3 hsz3; have Hhmp3 := Lib.hid hmp3; clear hmp3; have Hhgr3 := Lib.hid hgr3; clear hgr3; clear hsz3) | (refine wpList_look _ rfl _ _ 59 rfl 3 4 keyI Try.underlying59 zero_bool w.heap.size lm rfl Hhmp.out s rfl hsI ?_; rw [hlk]))
              have hb3 := hbel.grown Hhgr3.out hbel.size (fun q hq => by cases hq; omega)
              exact ⟨⟨k + 1, _, by omega, by simp, Hhst.out, Hhmp3.out, Hhlook2.out, hb3⟩, by simp [intOf]; omega⟩
      · obtain rfl : k = l.length := by omega
        obtain ⟨hr, hnd⟩ := badE_none (Nat.le_refl _) hbad
        rw [List.take_length] at hr hnd
        have hmc := map_toNat_cast fun s hs => (hr s hs).1
        have hlt : ∀ s ∈ l.map Int.toNat, s < T.length := fun s hs => by
          obtain ⟨y, hy, rfl⟩ := List.mem_map.1 hs
          have := hr y hy
          omega
        have hsl1 : Sl 1 RInt w1 B2 (.slice A l.length cap) ((l.map Int.toNat).map fun n : Nat => (n : Int)) := by
          rw [hmc]; exact HhS.out.below keeps_int (hbel.mono hB)
        have hfa := Hhfar.out w1 hbel _ _ (l.map Int.toNat) (by omega) hsl1 hlt (by rw [List.length_map]; exact hl)
        have hE := Hhok.out hbad
        have Hhbad := Lib.hid hbad; clear hbad; have Hhmp := Lib.hid hmp; clear hmp; have Hhlook := Lib.hid hlook; clear hlook; have Hhr := Lib.hid hr; clear hr; have Hhnd := Lib.hid hnd; clear hnd; have Hhmc := Lib.hid hmc; clear hmc; have Hhlt := Lib.hid hlt; clear hlt; have Hhsl1 := Lib.hid hsl1; clear hsl1; have Hhfa := Lib.hid hfa; clear hfa; have HhE := Lib.hid hE; clear hE
        go_wp2_with fail
        refine Hhfa.out.mono ?_
        rintro e w2 ⟨⟨gs, gn, rfl, -, hkn, -, hgn⟩, hb2⟩
        have hbel2 := hbel.trans (hb2.mono hz1)
        have hnl := nearL_len T (l.map Int.toNat)
        have hsn := sl_bk hkn
        rw [hnl] at hsn
        have hco := contains_calls hsn (by omega) (-1)
        by_cases hm1 : (-1 : Int) ∈ nearL T (l.map Int.toNat)
        · have hE8 := HhE.out
          rw [if_pos hm1] at hE8
          rw [decide_eq_true hm1] at hco
          have hgl : growL T l = [] := by unfold growL; rw [hE8]; rfl
          have Hhkn := Lib.hid hkn; clear hkn; have Hhsn := Lib.hid hsn; clear hsn; have Hhco := Lib.hid hco; clear hco; have Hhm1 := Lib.hid hm1; clear hm1; have HhE8 := Lib.hid hE8; clear hE8; have Hhgl := Lib.hid hgl; clear hgl; have Hhnl := Lib.hid hnl; clear hnl
          go_wp2_with fail
          refine Hhco.out.mono ?_
          rintro e w3 ⟨rfl, rfl⟩
          go_wp2_with fail
          go_ret2
          exact ⟨⟨.slice none 0 0, by rw [HhE8.out]; rfl, by rw [Hhgl.out]; exact Sl.nil _ _⟩, hbel2⟩
        · have hE8 := HhE.out
          rw [if_neg hm1] at hE8
          rw [decide_eq_false hm1] at hco
          have hgl : growL T l = nearL T (l.map Int.toNat) := by unfold growL; rw [hE8]; rfl
          have Hhkn := Lib.hid hkn; clear hkn; have Hhsn := Lib.hid hsn; clear hsn; have Hhco := Lib.hid hco; clear hco; have Hhm1 := Lib.hid hm1; clear hm1; have HhE8 := Lib.hid hE8; clear hE8; have Hhgl := Lib.hid hgl; clear hgl; have Hhnl := Lib.hid hnl; clear hnl
          go_wp2_with fail
          refine Hhco.out.mono ?_
          rintro e w3 ⟨rfl, rfl⟩
          go_wp2_with fail
          go_ret2
          exact ⟨⟨.slice (some ⟨gn, 0, none⟩) T.length T.length, by rw [HhE8.out]; rfl, by rw [Hhgl.out]; exact Hhsn.out⟩, hbel2⟩
end Go.Proofs.Ytpmmjjbllmeneaa
