/- Walks: ref39's Grow. -/
import Derived.Test.YtpmmjjbllmeneaaDP
import Derived.Test.YtpmmjjbllmeneaaDH
namespace Go.Mesh
section
variable {N : Int} {T : List T3} {S : List Nat}
/-- The nearest of the first k. -/
def Bst (T : List T3) (S : List Nat) (x k : Nat) : Option Nat → Prop
  | none => ∀ j e, j < k → rc T S j e x = false
  | some i => i < k ∧ ∃ d, distO T [S.getD i 0] x = some d ∧ rc T S i d x = true ∧ ∀ j e, j < k → rc T S j e x = true → d < e ∨ (d = e ∧ i ≤ j)
theorem Surf.dist_one (h : Surf N T) (hS : ∀ s ∈ S, s < T.length) {i s x : Nat} (hi : S[i]? = some s) : (distO T [s] x = none → ∀ e, rc T S i e x = false) ∧ ∀ d, distO T [s] x = some d → rc T S i d x = true ∧ ∀ e, rc T S i e x = true → d ≤ e := by
  have hs : ∀ y ∈ [s], y < T.length := fun y hy => by rw [List.mem_singleton.1 hy]; exact hS s (List.mem_of_getElem? hi)
  constructor
  · intro h0 e
    rw [Bool.eq_false_iff]
    intro h9
    obtain ⟨s', h1, h2⟩ := rc_some.1 h9
    rw [hi] at h1
    obtain rfl := Option.some.inj h1
    have := (h.best_none hs).2 h0 0 e
    rw [rc_some.2 ⟨s, rfl, h2⟩] at this
    cases this
  · intro d hd
    have h1 := (h.dist_iff hs).1 hd
    obtain ⟨⟨j, hj⟩, h2⟩ := h1
    obtain ⟨s', h3, h4⟩ := rc_some.1 hj
    obtain rfl : s' = s := List.mem_singleton.1 (List.mem_of_getElem? h3)
    refine ⟨rc_some.2 ⟨s', hi, h4⟩, fun e he => ?_⟩
    obtain ⟨s'', h5, h6⟩ := rc_some.1 he
    rw [hi] at h5
    obtain rfl := Option.some.inj h5
    exact h2 0 e (rc_some.2 ⟨s', rfl, h6⟩)
theorem Bst.start (T : List T3) (S : List Nat) (x : Nat) : Bst T S x 0 none := fun j e h => by omega
theorem Bst.lt {x k i : Nat} (h : Bst T S x k (some i)) : i < k := h.1
theorem Bst.skip (hs : Surf N T) (hS : ∀ s ∈ S, s < T.length) {x k s : Nat} {b : Option Nat} (h : Bst T S x k b) (hk : S[k]? = some s) (hd : distO T [s] x = none) : Bst T S x (k + 1) b := by
  have h1 := (hs.dist_one hS hk (x := x)).1 hd
  cases b with
  | none =>
    intro j e hj
    by_cases hjk : j = k
    · rw [hjk]; exact h1 e
    · exact h j e (by omega)
  | some i =>
    obtain ⟨h2, d, h3, h4, h5⟩ := h
    refine ⟨by omega, d, h3, h4, fun j e hj he => ?_⟩
    by_cases hjk : j = k
    · rw [hjk, h1 e] at he; cases he
    · exact h5 j e (by omega) he
theorem Bst.first (hs : Surf N T) (hS : ∀ s ∈ S, s < T.length) {x k s d : Nat} (h : Bst T S x k none) (hk : S[k]? = some s) (hd : distO T [s] x = some d) : Bst T S x (k + 1) (some k) := by
  obtain ⟨h1, h2⟩ := (hs.dist_one hS hk (x := x)).2 d hd
  refine ⟨by omega, d, by rw [List.getD_eq_getElem?_getD, hk]; exact hd, h1, fun j e hj he => ?_⟩
  by_cases hjk : j = k
  · subst hjk
    have := h2 e he
    omega
  · rw [h j e (by omega)] at he; cases he
theorem Bst.more (hs : Surf N T) (hS : ∀ s ∈ S, s < T.length) {x k s d i f : Nat} (h : Bst T S x k (some i)) (hk : S[k]? = some s) (hd : distO T [s] x = some d) (hf : distO T [S.getD i 0] x = some f) (hdf : d < f) : Bst T S x (k + 1) (some k) := by
  obtain ⟨h1, h2⟩ := (hs.dist_one hS hk (x := x)).2 d hd
  obtain ⟨h3, f', h4, h5, h6⟩ := h
  rw [h4] at hf
  obtain rfl := Option.some.inj hf
  refine ⟨by omega, d, by rw [List.getD_eq_getElem?_getD, hk]; exact hd, h1, fun j e hj he => ?_⟩
  by_cases hjk : j = k
  · subst hjk
    have := h2 e he
    omega
  · have := h6 j e (by omega) he
    omega
theorem Bst.less (hs : Surf N T) (hS : ∀ s ∈ S, s < T.length) {x k s d i f : Nat} (h : Bst T S x k (some i)) (hk : S[k]? = some s) (hd : distO T [s] x = some d) (hf : distO T [S.getD i 0] x = some f) (hdf : ¬ d < f) : Bst T S x (k + 1) (some i) := by
  obtain ⟨h1, h2⟩ := (hs.dist_one hS hk (x := x)).2 d hd
  obtain ⟨h3, f', h4, h5, h6⟩ := h
  have hff : f' = f := by rw [h4] at hf; exact Option.some.inj hf
  refine ⟨by omega, f', h4, h5, fun j e hj he => ?_⟩
  by_cases hjk : j = k
  · subst hjk
    have := h2 e he
    omega
  · exact h6 j e (by omega) he
theorem Bst.all (hs : Surf N T) (hS : ∀ s ∈ S, s < T.length) {x : Nat} {b : Option Nat} (h : Bst T S x S.length b) : nearO T S x = b := by
  cases b with
  | none =>
    refine nearO_none ((hs.best_none hS).1 fun i d => ?_)
    rw [Bool.eq_false_iff]
    intro h9
    have := h i d (rc_lt h9)
    rw [h9] at this; cases this
  | some i =>
    obtain ⟨h3, d, h4, h5, h6⟩ := h
    exact ((hs.best_iff hS).2 ⟨h5, fun j e he => h6 j e (rc_lt he) he⟩).2
end
end Go.Mesh
namespace Go.Proofs.Ytpmmjjbllmeneaa
open Go Go.RowKit Go.Words Go.Mesh

/-- A row's header. -/
def rowV (n g : Nat) : Value := .slice (some ⟨g, 0, none⟩) n n
theorem infoRow39 : (Try.prog.info? 28).map (fun i => (i.zero, i.size, i.bytes)) = some (some (.slice none 0 0), 1, 24) := by kernel_rfl
theorem own_cell39 {w : World} {base g n cap i : Nat} {e : TypeId} {u : Value} {xs : List Value} (h : w.ownsRow base e 1 (.slice (some ⟨g, 0, none⟩) n cap) n xs) (hi : xs[i]? = some u) : w.cell? ⟨g, i, none⟩ = some u ∧ base ≤ g ∧ g < w.heap.size := by
  rcases h.2 with ⟨h1, _⟩ | ⟨g', cap', cur, h1, hb, hg, _, _, _, hx⟩
  · cases h1
  · injection h1 with h1
    injection h1 with h1
    injection h1 with h1
    subst h1
    refine ⟨?_, hb, (Array.getElem?_eq_some_iff.1 hg).1⟩
    have hbk : Bk w g e cur.toList := by unfold Bk; rw [hg]
    rw [hbk.cell i]
    rw [← hx, List.getElem?_take] at hi
    split at hi
    · exact hi
    · cases hi
theorem sl_ivals39 {w : World} {base : Nat} {v : Value} {l : List Int} (h : w.ownsRow base 3 1 v l.length (ivals l)) : Sl 1 RInt w w.heap.size v l := by
  refine Sl.of_own h fun i a hi => ?_
  have hl := (List.getElem?_eq_some_iff.1 hi).1
  have hvl : (ivals l).length = l.length := List.length_map _
  unfold RInt
  rw [Nat.mul_one, List.drop_eq_getElem_cons (by omega)]
  simp only [List.take_succ_cons, List.take_zero]
  have := ivals_at hi
  rw [List.getElem?_eq_getElem (by omega)] at this
  rw [Option.some.inj this]
set_option maxRecDepth 40000 in
set_option maxHeartbeats 2000000 in
theorem refgrow_calls {w : World} {B B2 : Nat} {sv lv : Value} {N : Int} {T : List T3} {l : List Int} (hT : Sl 3 RTri w B sv T) (hB0 : B ≤ w.heap.size) (hs : Surf N T) (hl : Sl 1 RInt w B2 lv l) (hB2 : B2 ≤ w.heap.size) (hll : l.length ≤ 1000000) :
    Calls Try.prog 17 #[.agg #[.int .i64 N, sv], lv] w fun e w' => GrowOut w' T l e ∧ Below w.heap.size w w' := by
  obtain ⟨A, cap, rfl, hcap⟩ := hT.form
  obtain ⟨A2, cap2, rfl, hcap2⟩ := hl.form
  have hfew := hs.tmax
  have hfar := fun wz (hz : Below w.heap.size w wz) lv B2 S h1 h2 h3 h4 => reffar_calls (N := N) (S := S) (lv := lv) (B2 := B2) (hT.below keeps_tri (hz.mono hB0)) (by have := hz.size; omega) hs h1 h2 h3 h4
  have hbox := Bk.new w 24 [.int .i64 N, .slice A T.length cap]
  have hb1 := (Below.refl w.heap.size w).alloc (Nat.le_refl _) (.cells #[.int .i64 N, .slice A T.length cap] 24)
  have c0 := hbox.cell 0
  have c1 := hbox.cell 1
  simp only [List.getElem?_cons_zero, List.getElem?_cons_succ] at c0 c1
  have hz0 : (w.alloc (.cells #[.int .i64 N, .slice A T.length cap] 24)).heap.size = w.heap.size + 1 := by simp
  generalize hw0 : w.alloc (.cells #[.int .i64 N, .slice A T.length cap] 24) = w0 at *
  by_cases h256 : 256 < l.length
  case pos =>
    have he : growE T l = 7 := by unfold growE; rw [if_pos h256]
    have hgl : growL T l = [] := by unfold growL; rw [he]; rfl
    have h256i : 256 < (l.length : Int) := by omega
    clear h256
    have HhT := Lib.hid hT; clear hT; have Hhl := Lib.hid hl; clear hl; have Hhfar := Lib.hid hfar; clear hfar; have Hhs := Lib.hid hs; clear hs; have Hhbox := Lib.hid hbox; clear hbox
    go_enter Try.func17, Try.ntmps17
    go_wp2_with fail
    go_ret2
    exact ⟨⟨.slice none 0 0, by rw [he]; rfl, by rw [hgl]; exact Sl.nil _ _⟩, hb1⟩
  case neg =>
    have h256i : (l.length : Int) ≤ 256 := by omega
    have herr : ∀ k e, k < l.length → badE T.length l (k + 1) = some e → growE T l = e ∧ (e = 0 ∨ growL T l = []) := fun k e hk h9 => by
      have hmono : ∀ j, k + 1 ≤ j → badE T.length l j = some e := fun j hj => by
        induction j with
        | zero => omega
        | succ j ih =>
          by_cases hjk : j + 1 = k + 1
          · rw [hjk]; exact h9
          · rw [badE, ih (by omega)]
      have e1 : growE T l = e := by unfold growE; rw [if_neg h256, hmono _ (by omega)]
      refine ⟨e1, ?_⟩
      by_cases h0 : e = 0
      · exact .inl h0
      · refine .inr ?_
        unfold growL
        rw [e1, if_neg h0]
    have hok : badE T.length l l.length = none → growE T l = if (-1 : Int) ∈ nearL T (l.map Int.toNat) then 8 else 0 := fun h9 => by unfold growE; rw [if_neg h256, h9]
    have hrf := Below.refl w0.heap.size w0
    have HhT := Lib.hid hT; clear hT; have Hhl := Lib.hid hl; clear hl; have Hhfar := Lib.hid hfar; clear hfar; have Hhs := Lib.hid hs; clear hs; have Hhbox := Lib.hid hbox; clear hbox; have Hherr := Lib.hid herr; clear herr; have Hhok := Lib.hid hok; clear hok; have Hh256 := Lib.hid h256; clear h256
    go_enter Try.func17, Try.ntmps17
    go_wp2_with fail
    clear hw0
    go_loopw [6] (fun iv wr => ∃ i : Nat, i ≤ l.length ∧ iv = .int .i64 (i : Int) ∧ badE T.length l i = none ∧ Below w0.heap.size w0 wr) (fun iv _ => l.length - (intOf iv).toNat)
    case atStart => exact ⟨0, by omega, rfl, rfl, hrf⟩
    case round =>
      obtain ⟨i, hi, rfl, hbad, hbr⟩ := hrel
      obtain ⟨w1, hw1⟩ : ∃ w1, w1 = wr := ⟨_, rfl⟩
      subst hw1
      have hz1 := hbr.size
      have hbw : Below w.heap.size w w1 := hb1.trans (hbr.mono (by omega))
      have hbx := Hhbox.out.below hbr (by omega)
      have b0 := hbx.cell 0
      have b1 := hbx.cell 1
      simp only [List.getElem?_cons_zero, List.getElem?_cons_succ] at b0 b1
      clear c0 c1
      by_cases hil : i < l.length
      · have hli := Hhl.out.below keeps_int (hbw.mono hB2)
        obtain ⟨b, o, rfl, hb, c1⟩ := hli.int_at hil
        have hst : badE T.length l (i + 1) = if l.getD i 0 < 0 ∨ (T.length : Int) ≤ l.getD i 0 then some 2 else if l.getD i 0 ∈ l.take i then some 9 else none := by rw [badE, hbad]
        have hgd : l.getD i 0 = l[i] := by rw [List.getD_eq_getElem?_getD, List.getElem?_eq_getElem hil]; rfl
        rw [← hgd] at c1
        have her := Hherr.out i
        have hii : (i : Int) < (l.length : Int) := by omega
        generalize l.getD i 0 = s at *
        by_cases hneg : s < 0
        · rw [if_pos (.inl hneg)] at hst
          obtain ⟨e1, e2⟩ := her 2 hil hst
          have e2 := e2.resolve_left (by omega)
          have hbd := hbw.drew
          have Hhbad := Lib.hid hbad; clear hbad; have Hhst := Lib.hid hst; clear hst; have Hher := Lib.hid her; clear her; have He1 := Lib.hid e1; clear e1; have He2 := Lib.hid e2; clear e2; have Hhbx := Lib.hid hbx; clear hbx; have Hhli := Lib.hid hli; clear hli; have Hhgd := Lib.hid hgd; clear hgd
          go_wp2_with fail
          refine Go.Canon.wp_region_text mixed (by kernel_rfl) ?_
          go_wp2_with fail
          refine Go.Canon.chk (by rfl) ?_
          go_wp2_with fail
          go_ret2
          exact ⟨⟨.slice none 0 0, by rw [He1.out]; rfl, by rw [He2.out]; exact Sl.nil _ _⟩, hbd⟩
        · by_cases hbig : (T.length : Int) ≤ s
          · rw [if_pos (.inr hbig)] at hst
            obtain ⟨e1, e2⟩ := her 2 hil hst
            have e2 := e2.resolve_left (by omega)
            have hbd := hbw.drew
            have Hhbad := Lib.hid hbad; clear hbad; have Hhst := Lib.hid hst; clear hst; have Hher := Lib.hid her; clear her; have He1 := Lib.hid e1; clear e1; have He2 := Lib.hid e2; clear e2; have Hhbx := Lib.hid hbx; clear hbx; have Hhli := Lib.hid hli; clear hli; have Hhgd := Lib.hid hgd; clear hgd
            go_wp2_with fail
            refine Go.Canon.wp_region_text mixed (by kernel_rfl) ?_
            go_wp2_with fail
            refine Go.Canon.chk (by rfl) ?_
            go_wp2_with fail
            go_ret2
            exact ⟨⟨.slice none 0 0, by rw [He1.out]; rfl, by rw [He2.out]; exact Sl.nil _ _⟩, hbd⟩
          · rw [if_neg (by omega)] at hst
            have hbd := hbr.drew
            have hsb : s < (T.length : Int) := by omega
            have hs0 : 0 ≤ s := by omega
            have Hhbad := Lib.hid hbad; clear hbad; have Hhst := Lib.hid hst; clear hst; have Hher := Lib.hid her; clear her; have Hhbx := Lib.hid hbx; clear hbx; have Hhli := Lib.hid hli; clear hli
            go_wp2_with fail
            refine Go.Canon.wp_region_text mixed (by kernel_rfl) ?_
            go_wp2_with fail
            refine Go.Canon.chk (by rfl) ?_
            go_wp2_with fail
            go_loopw [7] (fun kv wr => ∃ k : Nat, k ≤ i ∧ kv = .int .i64 (k : Int) ∧ s ∉ l.take k ∧ Below w0.heap.size w0 wr) (fun kv _ => i - (intOf kv).toNat)
            case atStart => exact ⟨0, by omega, rfl, by simp, hbd⟩
            case round =>
              obtain ⟨k, hk, rfl, hnk, hbq⟩ := hrel
              have hbwq : Below w.heap.size w wr := hb1.trans (hbq.mono (by omega))
              by_cases hki : k < i
              · have hkii : (k : Int) < (i : Int) := by omega
                have hkl : (k : Int) < (l.length : Int) := by omega
                obtain ⟨b', o', hbo, hbl, c2⟩ := (Hhl.out.below keeps_int (hbwq.mono hB2)).int_at (k := k) (by omega)
                obtain ⟨rfl, rfl⟩ : b = b' ∧ o = o' := by
                  injection hbo with h1
                  injection h1 with h1 h2
                  exact ⟨h1, h2⟩
                obtain ⟨b', o', hbo, -, c3⟩ := (Hhl.out.below keeps_int (hbwq.mono hB2)).int_at (k := i) (by omega)
                obtain ⟨rfl, rfl⟩ : b = b' ∧ o = o' := by
                  injection hbo with h1
                  injection h1 with h1 h2
                  exact ⟨h1, h2⟩
                rw [← hgd] at c3
                have htk := take_getD (l := l) (k := k) (by omega)
                have hgk : l.getD k 0 = l[k] := by rw [List.getD_eq_getElem?_getD, List.getElem?_eq_getElem (by omega)]; rfl
                rw [← hgk] at c2
                have htm : l.getD k 0 ∈ l.take i := by
                  rw [hgk]
                  exact List.mem_of_getElem? (i := k) (by rw [List.getElem?_take, if_pos hki]; exact List.getElem?_eq_getElem (by omega))
                clear hgk hbo
                generalize l.getD k 0 = y at *
                have hbqd := hbq.drew
                have hbwd := hbwq.drew
                by_cases hys : y = s
                · subst hys
                  have hst9 := Hhst.out
                  rw [if_pos htm] at hst9
                  obtain ⟨e1, e2⟩ := Hher.out 9 hil hst9
                  have e2 := e2.resolve_left (by omega)
                  have Hhst9 := Lib.hid hst9; clear hst9; have He1 := Lib.hid e1; clear e1; have He2 := Lib.hid e2; clear e2; have Hhtk := Lib.hid htk; clear htk; have Hhtm := Lib.hid htm; clear htm; have Hhnk := Lib.hid hnk; clear hnk
                  go_wp2_with fail
                  refine Go.Canon.wp_region_text mixed (by kernel_rfl) ?_
                  go_wp2_with fail
                  refine Go.Canon.chk (by rfl) ?_
                  go_wp2_with fail
                  go_ret2
                  exact ⟨⟨.slice none 0 0, by rw [He1.out]; rfl, by rw [He2.out]; exact Sl.nil _ _⟩, hbwd⟩
                · have hysb : (y == s) = false := by rw [beq_eq_false_iff_ne]; exact hys
                  have hnk2 : s ∉ l.take (k + 1) := by
                    rw [htk, List.mem_append, List.mem_singleton]
                    exact fun h => h.elim hnk fun h => hys h.symm
                  have Hhtk := Lib.hid htk; clear htk; have Hhtm := Lib.hid htm; clear htm; have Hhnk := Lib.hid hnk; clear hnk; have Hhnk2 := Lib.hid hnk2; clear hnk2
                  go_wp2_with fail
                  refine Go.Canon.wp_region_text mixed (by kernel_rfl) ?_
                  go_wp2_with fail
                  refine Go.Canon.chk (by rfl) ?_
                  go_wp2_with fail
                  exact ⟨⟨k + 1, by omega, by simp, Hhnk2.out, hbqd⟩, by simp [intOf]; omega⟩
              · obtain rfl : k = i := by omega
                have hst9 := Hhst.out
                rw [if_neg hnk] at hst9
                have Hhst9 := Lib.hid hst9; clear hst9; have Hhnk := Lib.hid hnk; clear hnk
                go_wp2_with fail
                exact ⟨⟨k + 1, by omega, by simp, Hhst9.out, hbq⟩, by simp [intOf]; omega⟩
      · obtain rfl : i = l.length := by omega
        obtain ⟨hr, hnd⟩ := badE_none (Nat.le_refl _) hbad
        rw [List.take_length] at hr hnd
        have hmc := map_toNat_cast fun s hs => (hr s hs).1
        have hlt : ∀ s ∈ l.map Int.toNat, s < T.length := fun s hs => by
          obtain ⟨y, hy, rfl⟩ := List.mem_map.1 hs
          have := hr y hy
          omega
        have hE := Hhok.out hbad
        have hSlen : (l.map Int.toNat).length = l.length := List.length_map _
        generalize hS : l.map Int.toNat = S at *
        have HhS := Lib.hid hS
        clear hS
        have hown0 : w1.ownsRow w0.heap.size 28 1 (.slice none 0 0) 0 [] := World.ownsRow_nil _ _ _ _
        have Hhbad := Lib.hid hbad; clear hbad; have Hhr := Lib.hid hr; clear hr; have Hhnd := Lib.hid hnd; clear hnd; have Hhmc := Lib.hid hmc; clear hmc; have Hhlt := Lib.hid hlt; clear hlt; have HhE := Lib.hid hE; clear hE; have Hhbx := Lib.hid hbx; clear hbx; have Hhown0 := Lib.hid hown0; clear hown0
        go_wp2_with fail
        go_loopw [8, 9] (fun fv iv wr => ∃ (i : Nat) (gs : List Nat), i ≤ l.length ∧ iv = .int .i64 (i : Int) ∧ gs.length = i ∧ wr.ownsRow w0.heap.size 28 1 fv i (gs.map (rowV T.length)) ∧ (∀ j g s : Nat, gs[j]? = some g → S[j]? = some s → Bk wr g 3 (ivals (distL T [s]))) ∧ Below w0.heap.size w0 wr) (fun _ iv _ => l.length - (intOf iv).toNat)
        case atStart => exact ⟨0, [], by omega, rfl, rfl, Hhown0.out, fun j g s h => by simp at h, hbr⟩
        case round =>
          clear hbr hbw b0 b1 hz1 Hhown0 Hhbx
          obtain ⟨i, gs, hi, rfl, hgl, hown, hrows, hbr⟩ := hrel
          obtain ⟨w2, hw2⟩ : ∃ w2, w2 = wr := ⟨_, rfl⟩
          subst hw2
          have hz2 := hbr.size
          have hbw : Below w.heap.size w w2 := hb1.trans (hbr.mono (by omega))
          have hbx := Hhbox.out.below hbr (by omega)
          have b0 := hbx.cell 0
          have b1 := hbx.cell 1
          simp only [List.getElem?_cons_zero, List.getElem?_cons_succ] at b0 b1
          obtain ⟨A3, cap3, rfl, hc3⟩ := own_form hown
          by_cases hil : i < l.length
          · have hli := Hhl.out.below keeps_int (hbw.mono hB2)
            obtain ⟨b, o, rfl, hb, c1⟩ := hli.int_at hil
            obtain ⟨s, hsi⟩ : ∃ s, S[i]? = some s := ⟨_, List.getElem?_eq_getElem (by omega)⟩
            have hls : l[i] = (s : Int) := by
              have h2 : (S.map fun n : Nat => (n : Int))[i]? = some (s : Int) := by rw [List.getElem?_map, hsi]; rfl
              rw [Hhmc.out, List.getElem?_eq_getElem hil] at h2
              exact Option.some.inj h2
            rw [hls] at c1
            have hsl := Hhlt.out s (List.mem_of_getElem? hsi)
            have hii : (i : Int) < (l.length : Int) := by omega
            clear hls
            have Hhown := Lib.hid hown; clear hown; have Hhrows := Lib.hid hrows; clear hrows; have Hhbx := Lib.hid hbx; clear hbx; have Hhli := Lib.hid hli; clear hli; have Hhsi := Lib.hid hsi; clear hsi
            go_wp2_with fail
            refine Go.Canon.wp_region_tree [1] (fun b => b = w.heap.size) (.seg [0,1,2,3,4,5] (.alt 6 (.alt 7 (.alt 8 (.alt 9 (.seg [10] .fin) .no) .no) .no) .no)) mixed (by kernel_rfl) ?_
            refine Go.Canon.tr_seg ?_
            simp only [List.map_cons, List.map_nil, List.getD_cons_zero, List.getD_cons_succ]
            go_wp2_with fail
            refine Go.Canon.tr_to (Go.Canon.tr_one ?_)
            simp only [List.getD_cons_zero, List.getD_cons_succ]
            go_wp2_with fail
            obtain ⟨w3, hw3⟩ : ∃ w3, w3 = w2.alloc (.cells #[.int .i64 (s : Int)] 3) := ⟨_, rfl⟩
            have hb3 : Below w2.heap.size w2 w3 := by rw [hw3]; exact (Below.refl _ _).alloc (Nat.le_refl _) _
            have hz3 : w3.heap.size = w2.heap.size + 1 := by rw [hw3]; simp
            have hk3 : Bk w3 w2.heap.size 3 (ivals [(s : Int)]) := by rw [hw3]; exact Bk.new w2 _ _
            have hsl3 := sl_bk hk3
            rw [← hw3]
            clear hw3
            have hbxw : w.heap.size < w2.heap.size := by omega
            have hfa := Hhfar.out w3.drew (hbw.trans ((hb3.mono hbw.size).drew)) _ _ [s] (hsl3.drew keeps_int) (Nat.le_refl _) (fun y hy => by rw [List.mem_singleton.1 hy]; exact hsl) (by simp)
            have Hhk3 := Lib.hid hk3; clear hk3; have Hhsl3 := Lib.hid hsl3; clear hsl3; have Hhfa := Lib.hid hfa; clear hfa
            refine Go.Canon.tr_end (fun b hb => by subst hb; exact hb3.block _ hbxw) (Go.Canon.tr_one ?_)
            simp only [List.getD_cons_zero, List.getD_cons_succ]
            go_wp2_with fail
            refine Hhfa.out.mono ?_
            rintro e w4 ⟨⟨gd, rfl, hkd, hgd'⟩, hb4⟩
            have hd4 : Below w2.heap.size w2 w4 := hb3.drew.trans (hb4.mono hb3.size)
            have hown4 := own_below Hhown.out hd4 (Nat.le_refl _)
            have hrows4 : ∀ j g s : Nat, gs[j]? = some g → S[j]? = some s → Bk w4 g 3 (ivals (distL T [s])) := fun j g s h1 h2 => (Hhrows.out j g s h1 h2).below hd4 (Hhrows.out j g s h1 h2).lt
            have hz4 := hd4.size
            clear hb4 Hhfa
            have Hhkd := Lib.hid hkd; clear hkd; have Hhown4 := Lib.hid hown4; clear hown4; have Hhrows4 := Lib.hid hrows4; clear hrows4
            go_wp2_with fail
            refine Go.Canon.tr_end (fun b hb => by subst hb; exact hd4.block _ hbxw) (Go.Canon.tr_one ?_)
            simp only [List.getD_cons_zero, List.getD_cons_succ]
            go_wp2_with fail
            obtain ⟨w5, hw5⟩ : ∃ w5, w5 = w4.alloc (.cells #[.slice (some ⟨gd, 0, none⟩) T.length T.length] 28) := ⟨_, rfl⟩
            have hb5 : Below w4.heap.size w4 w5 := by rw [hw5]; exact (Below.refl _ _).alloc (Nat.le_refl _) _
            have hz5 : w5.heap.size = w4.heap.size + 1 := by rw [hw5]; simp
            have hk5 : Bk w5 w4.heap.size 28 [rowV T.length gd] := by rw [hw5]; exact Bk.new w4 _ _
            rw [← hw5]
            clear hw5
            have hd5 := hd4.trans (hb5.mono hz4)
            have hown5 := own_below Hhown4.out hb5 (Nat.le_refl _)
            have hkd5 : Bk w5 gd 3 (ivals (distL T [s])) := Hhkd.out.below hb5 Hhkd.out.lt
            have hrows5 : ∀ j g s : Nat, gs[j]? = some g → S[j]? = some s → Bk w5 g 3 (ivals (distL T [s])) := fun j g s h1 h2 => (Hhrows4.out j g s h1 h2).below hb5 (Hhrows4.out j g s h1 h2).lt
            have hbz5 : w0.heap.size ≤ w5.heap.size := by omega
            have Hhk5 := Lib.hid hk5; clear hk5; have Hhown5 := Lib.hid hown5; clear hown5; have Hhkd5 := Lib.hid hkd5; clear hkd5; have Hhrows5 := Lib.hid hrows5; clear hrows5
            refine Go.Canon.tr_end (fun b hb => by subst hb; exact hd5.block _ hbxw) (Go.Canon.tr_one ?_)
            simp only [List.getD_cons_zero, List.getD_cons_succ]
            go_wp2_with (at_builtin; refine append_block _ rfl (.tmp 58) (.tmp 66) 60 rfl w0.heap.size infoRow39 Try.underlying60 rfl (by decide) _ i (gs.map (rowV T.length)) rfl Hhown5.out w4.heap.size [rowV T.length gd] rfl Hhk5.out rfl (by simp [Value.oneCell', rowV]) (by omega) (by omega) hbz5 ?_; intro v6 w6 hown6 hb6 hgr6 _; obtain ⟨g9, cap9, rfl⟩ := ownsRow_succ hown6; have Hhown6 := Lib.hid hown6; clear hown6; have Hhgr6 := Lib.hid hgr6; clear hgr6)
            have hwl : w.heap.size < w0.heap.size := by omega
            have hkb : w6.heap[w.heap.size]? = w2.heap[w.heap.size]? := (hb6.block _ hwl).trans (hd5.block _ hbxw)
            have hbel6 : Below w0.heap.size w0 w6 := (hbr.trans (hd5.mono hz2)).trans hb6
            have hrows6 : ∀ j g s' : Nat, (gs ++ [gd])[j]? = some g → S[j]? = some s' → Bk w6 g 3 (ivals (distL T [s'])) := fun j g s' h1 h2 => by
              by_cases hj : j < gs.length
              · rw [List.getElem?_append_left hj] at h1
                exact (Hhrows5.out j g s' h1 h2).kept_own Hhown5.out (by decide) Hhgr6.out
              · have hj2 : j = i := by
                  have := (List.getElem?_eq_some_iff.1 h1).1
                  rw [List.length_append, List.length_singleton] at this
                  omega
                rw [List.getElem?_append_right (by omega), hj2, hgl, Nat.sub_self] at h1
                obtain rfl := Option.some.inj h1
                rw [hj2, Hhsi.out] at h2
                obtain rfl := Option.some.inj h2
                exact Hhkd5.out.kept_own Hhown5.out (by decide) Hhgr6.out
            have hown7 : w6.ownsRow w0.heap.size 28 1 (.slice (some ⟨g9, 0, none⟩) (i + 1) cap9) (i + 1) ((gs ++ [gd]).map (rowV T.length)) := by rw [List.map_append]; exact Hhown6.out
            have Hhrows6 := Lib.hid hrows6; clear hrows6; have Hhkb := Lib.hid hkb; clear hkb; have Hhown7 := Lib.hid hown7; clear hown7
            refine Go.Canon.tr_end (fun b hb => by subst hb; exact Hhkb.out) (Go.Canon.tr_seg ?_)
            simp only [List.map_cons, List.map_nil, List.getD_cons_zero, List.getD_cons_succ]
            go_wp2_with fail
            refine Go.Canon.tr_to (Go.Canon.tr_fin (by rfl) (List.forall_mem_cons.2 ⟨.inl ⟨_, rfl, rfl, by rw [World.cell?_drew, b0]; rfl⟩, fun _ h => by cases h⟩) ?_)
            go_wp2_with fail
            exact ⟨⟨i + 1, gs ++ [gd], by omega, by simp, by rw [List.length_append, List.length_singleton]; omega, Hhown7.out, Hhrows6.out, hbel6⟩, by simp [intOf]; omega⟩
          · obtain rfl : i = l.length := by omega
            have Hhown := Lib.hid hown; clear hown; have Hhrows := Lib.hid hrows; clear hrows; have Hhbx := Lib.hid hbx; clear hbx
            go_wp2_with fail
            go_loopw [10, 11] (fun ov iv wr => ∃ t : Nat, t ≤ T.length ∧ iv = .int .i64 (t : Int) ∧ (∀ x, x < t → nearO T S x ≠ none) ∧ wr.ownsRow w2.heap.size 3 1 ov t (ivals ((nearL T S).take t)) ∧ Below w2.heap.size w2 wr) (fun _ iv _ => T.length - (intOf iv).toNat)
            case atStart => exact ⟨0, by omega, rfl, fun x h => by omega, World.ownsRow_nil _ _ _ _, Below.refl _ _⟩
            case round =>
              obtain ⟨t, ht, rfl, hnn, hown, hbq⟩ := hrel
              obtain ⟨w3, hw3⟩ : ∃ w3, w3 = wr := ⟨_, rfl⟩
              subst hw3
              have hz3 := hbq.size
              have hd3 : Below w0.heap.size w0 w3 := hbr.trans (hbq.mono hz2)
              have hbx3 := Hhbx.out.below hbq (by omega)
              have b03 := hbx3.cell 0
              have b13 := hbx3.cell 1
              simp only [List.getElem?_cons_zero, List.getElem?_cons_succ] at b03 b13
              clear b0 b1
              obtain ⟨A4, cap4, rfl, hc4⟩ := own_form hown
              by_cases htl : t < T.length
              · have htt : (t : Int) < (T.length : Int) := by omega
                have hlg : gs.length = l.length := hgl
                have hown3 := own_below Hhown.out hbq (Nat.le_refl _)
                have hrows3 : ∀ j g s : Nat, gs[j]? = some g → S[j]? = some s → Bk w3 g 3 (ivals (distL T [s])) := fun j g s h1 h2 => (Hhrows.out j g s h1 h2).below hbq (Hhrows.out j g s h1 h2).lt
                have hbst := Bst.start T S t
                have hr3 := Below.refl w3.heap.size w3
                -- a row's number
                have hat : ∀ k : Nat, k < l.length → ∃ s g, S[k]? = some s ∧ (∃ u, A3 = some ⟨u, 0, none⟩ ∧ u < w3.heap.size ∧ w3.cell? ⟨u, k, none⟩ = some (.slice (some ⟨g, 0, none⟩) T.length T.length)) ∧ g < w3.heap.size ∧ w3.cell? ⟨g, t, none⟩ = some (.int .i64 (optI (distO T [s] t))) := fun k hk => by
                  obtain ⟨u, rfl⟩ := own_addrD hown3 (by omega)
                  obtain ⟨g, hg⟩ : ∃ g, gs[k]? = some g := ⟨_, List.getElem?_eq_getElem (by omega)⟩
                  obtain ⟨s, hsk⟩ : ∃ s, S[k]? = some s := ⟨_, List.getElem?_eq_getElem (by omega)⟩
                  have hb := hrows3 k g s hg hsk
                  obtain ⟨h1, -, h3⟩ := own_cell39 (i := k) (u := rowV T.length g) hown3 (by rw [List.getElem?_map, hg]; rfl)
                  exact ⟨s, g, hsk, ⟨u, rfl, h3, h1⟩, hb.lt, (hb.cell t).trans (ivals_at (distL_at htl))⟩
                have Hhbx3 := Lib.hid hbx3; clear hbx3; have Hhown := Lib.hid hown; clear hown; have Hhnn := Lib.hid hnn; clear hnn; have Hhown3 := Lib.hid hown3; clear hown3; have Hhrows3 := Lib.hid hrows3; clear hrows3; have Hhbst := Lib.hid hbst; clear hbst; have Hhat := Lib.hid hat; clear hat
                go_wp2_with fail
                go_loopw [12, 13] (fun bv iv wr => ∃ (k : Nat) (b : Option Nat), k ≤ l.length ∧ iv = .int .i64 (k : Int) ∧ bv = .int .i64 (optI b) ∧ Bst T S t k b ∧ Below w3.heap.size w3 wr) (fun _ iv _ => l.length - (intOf iv).toNat)
                case atStart => exact ⟨0, none, by omega, rfl, rfl, Hhbst.out, hr3⟩
                case round =>
                  obtain ⟨k, b, hk, rfl, rfl, hbst, hbp⟩ := hrel
                  have hbpd := hbp.drew
                  by_cases hkl : k < l.length
                  · obtain ⟨s, g, hsk, ⟨u, rfl, hu, cu⟩, hg, cg⟩ := Hhat.out k hkl
                    have cu' := (hbp.cell (p := ⟨u, k, none⟩) hu).trans cu
                    have cg' := (hbp.cell (p := ⟨g, t, none⟩) hg).trans cg
                    have hkk : (k : Int) < (l.length : Int) := by omega
                    clear cu cg
                    cases hd : distO T [s] t with
                    | none =>
                      rw [hd] at cg'
                      simp only [optI] at cg'
                      have hb2 := hbst.skip Hhs.out Hhlt.out hsk hd
                      have Hhbst := Lib.hid hbst; clear hbst; have Hhb2 := Lib.hid hb2; clear hb2; have Hhsk := Lib.hid hsk; clear hsk; have Hhd := Lib.hid hd; clear hd
                      go_wp2_with fail
                      refine Go.Canon.wp_region_text mixed (by kernel_rfl) ?_
                      go_wp2_with fail
                      refine Go.Canon.chk (by rfl) ?_
                      go_wp2_with fail
                      exact ⟨⟨k + 1, _, by omega, by simp, rfl, Hhb2.out, hbpd⟩, by simp [intOf]; omega⟩
                    | some d =>
                      rw [hd] at cg'
                      simp only [optI] at cg'
                      cases b with
                      | none =>
                        have hb2 := hbst.first Hhs.out Hhlt.out hsk hd
                        simp only [optI]
                        have Hhbst := Lib.hid hbst; clear hbst; have Hhb2 := Lib.hid hb2; clear hb2; have Hhsk := Lib.hid hsk; clear hsk; have Hhd := Lib.hid hd; clear hd
                        go_wp2_with fail
                        refine Go.Canon.wp_region_text mixed (by kernel_rfl) ?_
                        go_wp2_with fail
                        refine Go.Canon.chk (by rfl) ?_
                        go_wp2_with fail
                        exact ⟨⟨k + 1, some k, by omega, by simp, rfl, Hhb2.out, hbpd⟩, by simp [intOf]; omega⟩
                      | some c =>
                        have hcl := hbst.lt
                        obtain ⟨s2, g2, hsc, ⟨u2, hu2, -, cu2⟩, hg2, cg2⟩ := Hhat.out c (by omega)
                        obtain rfl : u = u2 := by injection hu2 with h1; injection h1
                        have cu2' := (hbp.cell (p := ⟨u, c, none⟩) hu).trans cu2
                        have cg2' := (hbp.cell (p := ⟨g2, t, none⟩) hg2).trans cg2
                        clear cu2 cg2 hu2
                        obtain ⟨f, hf⟩ : ∃ f, distO T [S.getD c 0] t = some f := by
                          obtain ⟨_, f, h2, _⟩ := hbst
                          exact ⟨f, h2⟩
                        have hgc : S.getD c 0 = s2 := by rw [List.getD_eq_getElem?_getD, hsc]; rfl
                        have hf2 := hf
                        rw [hgc] at hf2
                        rw [hf2] at cg2'
                        simp only [optI] at cg2' ⊢
                        have hcc : (c : Int) < (l.length : Int) := by omega
                        by_cases hdf : d < f
                        · have hb2 := hbst.more Hhs.out Hhlt.out hsk hd hf hdf
                          have hdi : (d : Int) < (f : Int) := by omega
                          have Hhbst := Lib.hid hbst; clear hbst; have Hhb2 := Lib.hid hb2; clear hb2; have Hhsk := Lib.hid hsk; clear hsk; have Hhd := Lib.hid hd; clear hd; have Hhsc := Lib.hid hsc; clear hsc; have Hhf := Lib.hid hf; clear hf; have Hhf2 := Lib.hid hf2; clear hf2; have Hhgc := Lib.hid hgc; clear hgc
                          go_wp2_with fail
                          refine Go.Canon.wp_region_text mixed (by kernel_rfl) ?_
                          go_wp2_with fail
                          refine Go.Canon.chk (by rfl) ?_
                          go_wp2_with fail
                          exact ⟨⟨k + 1, some k, by omega, by simp, rfl, Hhb2.out, hbpd⟩, by simp [intOf]; omega⟩
                        · have hb2 := hbst.less Hhs.out Hhlt.out hsk hd hf hdf
                          have hdi : (f : Int) ≤ (d : Int) := by omega
                          have Hhbst := Lib.hid hbst; clear hbst; have Hhb2 := Lib.hid hb2; clear hb2; have Hhsk := Lib.hid hsk; clear hsk; have Hhd := Lib.hid hd; clear hd; have Hhsc := Lib.hid hsc; clear hsc; have Hhf := Lib.hid hf; clear hf; have Hhf2 := Lib.hid hf2; clear hf2; have Hhgc := Lib.hid hgc; clear hgc
                          go_wp2_with fail
                          refine Go.Canon.wp_region_text mixed (by kernel_rfl) ?_
                          go_wp2_with fail
                          refine Go.Canon.chk (by rfl) ?_
                          go_wp2_with fail
                          exact ⟨⟨k + 1, some c, by omega, by simp, rfl, Hhb2.out, hbpd⟩, by simp [intOf]; omega⟩
                  · obtain rfl : k = l.length := by omega
                    have hno := Bst.all Hhs.out Hhlt.out (by rw [hSlen]; exact hbst)
                    have hd4 : Below w0.heap.size w0 wr := hd3.trans (hbp.mono hd3.size)
                    have hw4 := hb1.trans (hd4.mono (by omega))
                    cases b with
                    | none =>
                      simp only [optI]
                      have hin : (-1 : Int) ∈ nearL T S := List.mem_of_getElem? (i := t) (by rw [nearL_at htl, hno]; rfl)
                      have hE8 := HhE.out
                      rw [if_pos hin] at hE8
                      have hgl8 : growL T l = [] := by unfold growL; rw [hE8]; rfl
                      have Hhbst := Lib.hid hbst; clear hbst; have Hhno := Lib.hid hno; clear hno; have Hhin := Lib.hid hin; clear hin; have HhE8 := Lib.hid hE8; clear hE8; have Hhgl8 := Lib.hid hgl8; clear hgl8
                      go_wp2_with fail
                      go_ret2
                      exact ⟨⟨.slice none 0 0, by rw [HhE8.out]; rfl, by rw [Hhgl8.out]; exact Sl.nil _ _⟩, hw4⟩
                    | some c =>
                      simp only [optI]
                      have hown4 := own_below Hhown.out hbp (Nat.le_refl _)
                      have hz4 := hbp.size
                      have hnv : ivals ((nearL T S).take t) ++ [.int .i64 (c : Int)] = ivals ((nearL T S).take (t + 1)) := by
                        have h9 : (nearL T S)[t]? = some (c : Int) := by rw [nearL_at htl, hno]; rfl
                        obtain ⟨h7, h8⟩ := List.getElem?_eq_some_iff.1 h9
                        rw [List.take_succ_eq_append_getElem h7, h8]
                        unfold ivals
                        rw [List.map_append]; rfl
                      have hnn2 : ∀ x, x < t + 1 → nearO T S x ≠ none := fun x hx => by
                        by_cases hxt : x = t
                        · rw [hxt, hno]; exact fun h => by cases h
                        · exact Hhnn.out x (by omega)
                      have hbw4 : Below w2.heap.size w2 wr := hbq.trans (hbp.mono hz3)
                      have hz24 : w2.heap.size ≤ wr.heap.size := hbw4.size
                      have Hhbst := Lib.hid hbst; clear hbst; have Hhno := Lib.hid hno; clear hno; have Hhown4 := Lib.hid hown4; clear hown4; have Hhnv := Lib.hid hnv; clear hnv; have Hhnn2 := Lib.hid hnn2; clear hnn2
                      go_wp2_with (at_builtin; refine append_block _ rfl (.tmp 113) (.tmp 115) 28 rfl w2.heap.size info_int Try.underlying28 rfl (by decide) _ t (ivals ((nearL T S).take t)) rfl (Hhown4.out.alloc _) wr.heap.size [.int .i64 (c : Int)] rfl (Bk.new _ _ _) rfl (by simp [Value.oneCell']) (by omega) (by omega) (by simp; omega) ?_; intro v1 w5 hown5 hb5 _ _; obtain ⟨g9, cap9, rfl⟩ := ownsRow_succ hown5; have Hhown5 := Lib.hid hown5; clear hown5)
                      exact ⟨⟨t + 1, by omega, by simp, Hhnn2.out, by rw [← Hhnv.out]; exact Hhown5.out, (hbw4.alloc hz24 _).trans hb5⟩, by simp [intOf]; omega⟩
              · obtain rfl : t = T.length := by omega
                have hni : ¬ (-1 : Int) ∈ nearL T S := near_all.2 fun x hx => Option.ne_none_iff_exists'.1 (hnn x hx)
                have hE8 := HhE.out
                rw [if_neg hni] at hE8
                have hgl8 : growL T l = nearL T S := by unfold growL; rw [hE8, if_pos rfl, HhS.out]
                have hnl9 := nearL_len T S
                rw [List.take_of_length_le (by omega)] at hown
                have hsl9 := sl_ivals39 (l := nearL T S) (by rw [hnl9]; exact hown)
                have hw4 := hb1.trans (hd3.mono (by omega))
                have Hhbx3 := Lib.hid hbx3; clear hbx3; have Hhown := Lib.hid hown; clear hown; have Hhnn := Lib.hid hnn; clear hnn; have Hhni := Lib.hid hni; clear hni; have HhE8 := Lib.hid hE8; clear hE8; have Hhgl8 := Lib.hid hgl8; clear hgl8; have Hhnl9 := Lib.hid hnl9; clear hnl9; have Hhsl9 := Lib.hid hsl9; clear hsl9
                go_wp2_with fail
                go_ret2
                exact ⟨⟨.slice A4 T.length cap4, by rw [HhE8.out]; rfl, by rw [Hhgl8.out]; exact Hhsl9.out⟩, hw4⟩
end Go.Proofs.Ytpmmjjbllmeneaa
