/- Walks: edges told apart, and sorted (soup.Edges). Words: a map's keys, gone over in whatever order. Walks: the keys of a map of edges, gone over and collected (maps.Keys, slices.Collect). Walks: slices.AppendSeq, Collect and SortedFunc of a map's edges. Walks: slices.SortedFunc of a map's edges; soup.Fits of a surface. Walks: soup.Edges of a surface. Plain: edges in their order, and how many a vertex has; no program in sight. -/
import Derived.Test.YtpbdcppaiafbgaaGreatMD
import Derived.Test.YtpbdcppaiafbgaaGreatMap
import Derived.Sort.MapsRangeIn
import Derived.Sort.KeysCollected
import Derived.RangeFuncStops
import Derived.RangeFuncNested
import Derived.Test.YtpbdcppaiafbgaaGreatTI
import Derived.Shelf.SlSortCmp.NoneTotal
import Derived.Test.YtpbdcppaiafbgaaGreatTS
import Derived.Test.YtpbdcppaiafbgaaGreatMP
namespace Go.Mesh
def cmpE (x y : Int × Int) : Int := if cmpI x.1 y.1 ≠ 0 then cmpI x.1 y.1 else cmpI x.2 y.2
def ltE (x y : Int × Int) : Prop := x.1 < y.1 ∨ (x.1 = y.1 ∧ x.2 < y.2)
instance (x y : Int × Int) : Decidable (ltE x y) := inferInstanceAs (Decidable (_ ∨ _))
theorem cmpE_neg (x y : Int × Int) : cmpE x y < 0 ↔ ltE x y := by
  have h1 := cmpI_neg x.1 y.1
  have h2 := cmpI_neg x.2 y.2
  have h3 := cmpI_zero x.1 y.1
  unfold cmpE ltE
  split <;> omega
def flat2 (l : List (Int × Int)) : List Value := l.flatMap fun t => [.int .i64 t.1, .int .i64 t.2]
theorem flat2_at (l : List (Int × Int)) : ∀ (i : Nat) (b : Int × Int), l[i]? = some b → ((flat2 l).drop (i * 2)).take 2 = [.int .i64 b.1, .int .i64 b.2] := by
  induction l with
  | nil => intro i b h; simp at h
  | cons x l ih =>
    intro i b h
    cases i with
    | zero =>
      have : x = b := by simpa using h
      subst this
      simp [flat2]
    | succ i =>
      have h2 := ih i b (by simpa using h)
      rw [show (i + 1) * 2 = i * 2 + 1 + 1 by omega]
      simp only [flat2, List.flatMap_cons, List.cons_append, List.nil_append, List.drop_succ_cons]
      exact h2
theorem flat2_len (l : List (Int × Int)) : (flat2 l).length = l.length * 2 := by
  induction l with
  | nil => rfl
  | cons x l ih => unfold flat2 at *; rw [List.flatMap_cons, List.length_append, ih]; simp; omega
theorem flat2_snoc (l : List (Int × Int)) (e : Int × Int) : flat2 (l ++ [e]) = flat2 l ++ [.int .i64 e.1, .int .i64 e.2] := by unfold flat2; rw [List.flatMap_append]; simp
end Go.Mesh
namespace Go.Proofs.YtpbdcppaiafbgaaGreat
open Go Go.RowKit Go.Words Go.Mesh Go.Shelf Go.Sort Go.Lib

set_option maxHeartbeats 2000000 in
theorem order2_calls (x y : Int × Int) (W : World) : Calls Tryz.prog 110 #[enc2 x, enc2 y] W fun e w' => e = .returned (.int .i64 (cmpE x y)) ∧ ∃ q os', w' = grow (W.drewN q) os' := by
  obtain ⟨x1, x2⟩ := x
  obtain ⟨y1, y2⟩ := y
  have hcw : cmpE (x1, x2) (y1, y2) = if cmpI x1 y1 ≠ 0 then cmpI x1 y1 else cmpI x2 y2 := rfl
  have ha := fun w => compare_calls x1 y1 w
  have hb := fun w => compare_calls x2 y2 w
  rw [hcw]
  generalize cmpI x1 y1 = c at *
  generalize cmpI x2 y2 = d at *
  have ho := fun g w h0 h1 => or_calls g c d w h0 h1
  generalize (if c ≠ 0 then c else d) = r at *
  show Calls Tryz.prog 110 #[.agg #[.int .i64 x1, .int .i64 x2], .agg #[.int .i64 y1, .int .i64 y2]] W _
  have Hha := Lib.hid ha; clear ha; have Hhb := Lib.hid hb; clear hb; have Hho := Lib.hid ho; clear ho; have Hhcw := Lib.hid hcw; clear hcw
  go_enter Tryz.func110, Tryz.ntmps110
  go_wp2_with (refine Go.Canon.wp_region_plan [6,8] (· < W.heap.size + 2) [0,1,2,3,5,6,7,8] [[[4],[9],[10],[11],[12]]] mixed (by kernel_rfl) (List.forall_mem_cons.2 ⟨?_, fun _ h => by cases h⟩))
  refine Go.Canon.seg_begin ?_
  simp only [List.map_cons, List.map_nil, List.getD_cons_zero, List.getD_cons_succ]
  go_wp2_with fail
  refine (Hha.out _).mono ?_
  rintro e w1 ⟨rfl, rfl⟩
  have kb : Go.Canon.KeepU (· < W.heap.size + 2) ((W.alloc (.cells #[.int .i64 x1, .int .i64 x2] 39)).alloc (.cells #[.int .i64 y1, .int .i64 y2] 39)).drew ((W.alloc (.cells #[.int .i64 x1, .int .i64 x2] 39)).alloc (.cells #[.int .i64 y1, .int .i64 y2] 39)).drew := keep_below (RowKit.Below.refl _ _)
  have kb2 : Go.Canon.KeepU (· < W.heap.size + 2) ((W.alloc (.cells #[.int .i64 x1, .int .i64 x2] 39)).alloc (.cells #[.int .i64 y1, .int .i64 y2] 39)).drew (((W.alloc (.cells #[.int .i64 x1, .int .i64 x2] 39)).alloc (.cells #[.int .i64 y1, .int .i64 y2] 39)).alloc (.cells #[.int .i64 c, .int .i64 d] 3)).drew := keep_below (RowKit.Below.alloc (B := W.heap.size + 2) (a := ((W.alloc (.cells #[.int .i64 x1, .int .i64 x2] 39)).alloc (.cells #[.int .i64 y1, .int .i64 y2] 39)).drew) (RowKit.Below.refl _ _) (by simp) (.cells #[.int .i64 c, .int .i64 d] 3))
  have hlit := (Bk.new' (n := W.heap.size + 2) (w := (W.alloc (.cells #[.int .i64 x1, .int .i64 x2] 39)).alloc (.cells #[.int .i64 y1, .int .i64 y2] 39)) 3 [.int .i64 c, .int .i64 d] (by simp)).drew
  have Hkb := Lib.hid kb; clear kb; have Hkb2 := Lib.hid kb2; clear kb2; have Hhlit := Lib.hid hlit; clear hlit
  go_wp2_with fail
  refine Go.Canon.seg_end Hkb.out (Go.Canon.seg_begin ?_)
  simp only [List.map_cons, List.map_nil, List.getD_cons_zero, List.getD_cons_succ]
  go_wp2_with fail
  refine (Hhb.out _).mono ?_
  rintro e w1 ⟨rfl, rfl⟩
  go_wp2_with fail
  refine Go.Canon.seg_end Hkb.out (Go.Canon.seg_begin ?_)
  simp only [List.map_cons, List.map_nil, List.getD_cons_zero, List.getD_cons_succ]
  go_wp2_with fail
  refine Go.Canon.seg_end Hkb2.out (Go.Canon.seg_begin ?_)
  simp only [List.map_cons, List.map_nil, List.getD_cons_zero, List.getD_cons_succ]
  go_wp2_with fail
  refine (Hho.out _ _ ?_ ?_).mono ?_
  · exact Hhlit.out.cell 0
  · exact Hhlit.out.cell 1
  rintro e w1 ⟨rfl, rfl⟩
  go_wp2_with fail
  refine Go.Canon.seg_end Hkb2.out (Go.Canon.seg_begin ?_)
  simp only [List.map_cons, List.map_nil, List.getD_cons_zero, List.getD_cons_succ]
  go_wp2_with fail
  refine Go.Canon.seg_end Hkb2.out (Go.Canon.seg_done (by rfl) (List.forall_mem_cons.2 ⟨.inl ⟨_, rfl, by simp, by simp⟩, List.forall_mem_cons.2 ⟨.inl ⟨_, rfl, by simp, by simp⟩, fun _ h => by cases h⟩⟩) ?_)
  go_wp2_with fail
  go_ret
  exact ⟨rfl, 1, #[.cells #[.int .i64 x1, .int .i64 x2] 39, .cells #[.int .i64 y1, .int .i64 y2] 39, .cells #[.int .i64 c, .int .i64 d] 3], by rw [alloc_eq_grow, alloc_eq_grow, alloc_eq_grow, grow_grow, grow_grow]; rfl⟩

def encP (x : Int × Int) : List Value := [.int .i64 x.1, .int .i64 x.2]
theorem ltP (x y : Int × Int) : ltOf cmpE x y = decide (ltE x y) := by
  unfold ltOf
  rw [Bool.eq_iff_iff, decide_eq_true_eq, decide_eq_true_eq]
  exact cmpE_neg x y
theorem swoE : SWO (ltOf cmpE) where
  irrefl x := by rw [ltP]; simp [ltE]
  trans x y z h1 h2 := by
    rw [ltP, decide_eq_true_eq] at h1 h2 ⊢
    unfold ltE at *
    omega
  ntrans x y z h1 h2 := by
    rw [ltP, decide_eq_false_iff_not] at h1 h2 ⊢
    unfold ltE at *
    omega
theorem flatK_flat2 (L : List (Int × Int)) : flatK encP 2 L.toArray = (flat2 L).toArray := by
  apply Array.ext
  · simp [flat2_len]
  · intro j h1 h2
    have hj : j < L.length * 2 := by simpa using h1
    have hq : j / 2 < L.length := by omega
    rw [show (flatK encP 2 L.toArray)[j] = (flatK encP 2 L.toArray)[j]! from (getElem!_pos (flatK encP 2 L.toArray) j h1).symm, get_flatK _ _ _ _ (by simpa using hj)]
    have hd : L.toArray[j / 2]! = L[j / 2] := by simp [getElem!_pos, hq]
    rw [hd]
    have h3 := flat2_at L (j / 2) L[j / 2] (List.getElem?_eq_getElem hq)
    have h4 := congrArg (fun l : List Value => l[j % 2]?) h3
    rw [List.getElem?_take, if_pos (by omega), List.getElem?_drop, show j / 2 * 2 + j % 2 = j from by omega] at h4
    have h5 : (flat2 L)[j]? = some ((flat2 L).toArray[j]) := by
      rw [List.getElem?_eq_getElem (by rw [flat2_len]; exact hj)]; simp
    rw [h5] at h4
    have h6 : (encP L[j / 2])[j % 2]? = some ((flat2 L).toArray[j]) := h4.symm
    have hlt : j % 2 < (encP L[j / 2]).length := by unfold encP; simp; omega
    rw [List.getElem?_eq_getElem hlt] at h6
    injection h6 with h6
    rw [getElem!_pos (encP L[j / 2]) (j % 2) hlt, h6]


theorem sorted_pair {d' : Array (Int × Int)} {n : Nat} (h : SortedIn (ltOf cmpE) 0 n d') (hn : d'.size = n) : d'.toList.Pairwise (fun x y => ¬ ltE y x) := by
  rw [List.pairwise_iff_getElem]
  intro i j hi hj hij
  have := h i j (by omega) hij (by simpa [hn] using hj)
  rw [ltP] at this
  simp at hi hj
  simpa [getElem!_pos, hi, hj] using this
set_option maxHeartbeats 1000000 in
theorem sortedge_calls (L : List (Int × Int)) (g cap base : Nat) (w : World) (h : w.ownsRow base 39 2 (.slice (some ⟨g, 0, none⟩) L.length cap) L.length (flat2 L)) (hl : L.length ≤ 603979776) :
    Calls Tryz.prog 141 #[.slice (some ⟨g, 0, none⟩) L.length cap, .func (.func 110) #[] #[]] w fun e w' =>
      e = .returned (.tuple #[]) ∧ (∃ L' : List (Int × Int), L'.Perm L ∧ L'.length = L.length ∧ L'.Pairwise (fun x y => ¬ ltE y x) ∧ w'.ownsRow base 39 2 (.slice (some ⟨g, 0, none⟩) L.length cap) L.length (flat2 L')) ∧ w.grownBy w' (some g) := by
  have eg : ∀ args w, (callFunc 110 args).run Tryz.prog w = .ok (.enter 110 args) w := enters_of Tryz.func110 (by kernel_rfl) rfl
  have hlay : CmpLays Tryz.prog 110 #[] encP 2 cmpE g 0 L.toArray.size w := fun m os dk _ x y => order2_calls x y _
  have hH : HoldsK encP 2 w g 0 L.toArray := by
    unfold HoldsK
    rw [flatK_flat2]
    intro j hj
    have hj : j < L.length * 2 := by simpa [flat2_len] using hj
    rw [Nat.zero_add]
    refine ⟨?_, h.frozenAt j⟩
    rw [h.cellAt j hj, List.getElem?_eq_getElem (by rw [flat2_len]; exact hj)]
    simp [getElem!_pos, flat2_len, hj]
  have hcon := AnyQ.slices_SortFunc Tryz.sortEdge 2 Tryz.isAgg39 Tryz.sizeOf39 encP (fun _ => rfl) (fun x v hv => by simp [encP] at hv; rcases hv with rfl | rfl <;> rfl) cmpE swoE 110 #[] g 0 cap L.toArray w eg hlay hH (h.lt g rfl).2 (by simp; omega)
  change Calls Tryz.prog 141 _ _ _ at hcon
  refine hcon.mono ?_
  rintro e w' ⟨rfl, d', n, os, hp, hso, rfl⟩
  have hsz : d'.size = L.length := by have := hp.1; simpa using this
  have hperm : d'.toList.Perm L := by
    have := hp.2.2
    have e1 : d'.extract 0 L.toArray.size = d' := by rw [show L.toArray.size = d'.size from by simp [hsz]]; simp
    have e2 : L.toArray.extract 0 L.toArray.size = L.toArray := by simp
    rw [e1, e2] at this
    simpa using this
  refine ⟨rfl, ⟨d'.toList, hperm, by simpa using hsz, sorted_pair hso hsz, ?_⟩, grown_sorted id _⟩
  have hf : flatK encP 2 d' = (flat2 d'.toList).toArray := by rw [← flatK_flat2]
  have := own_sorted (m := n) (os := os) (flatK encP 2 d') h (by simp [hsz])
  rw [hf] at this
  unfold sortWorldK putRowK
  rw [hf]
  simpa using this
end Go.Proofs.YtpbdcppaiafbgaaGreat

namespace Go.Words
open Go Go.RowKit Go.Maps Go.MapKept Go.WideElems
section
variable {P : Program} {k : TypeId} {κ α : Type} {enc : κ → Value} {ok : κ → Prop} {ev : α → Value} {w : World} {b : Nat} {lm : List (κ × α)}
def RU : Value → Option (DataW Unit × List MemPlace) := fun _ => some (.lit (.bool true), [])
theorem Mp.owns (h : Mp enc ok ev w b lm) (K : KeyT P k enc ok) (hl : lm.length ≤ maxLen) : ∃ D0 : DataW Unit, w.ownsMap P k RU b maxLen D0 ∧ Maps.size D0 = lm.length ∧
    (∀ x ∈ lm.map (·.1), ∀ kl, keyOf P k (enc x) = some kl → has D0 kl = true) ∧ (∀ kl, has D0 kl = true → ∃ x ∈ lm.map (·.1), keyOf P k (enc x) = some kl) := by
  obtain ⟨es, clock, hb, hst, hes⟩ := h.block
  have hlen : es.size = lm.length := by
    have := congrArg List.length hes
    simpa using this
  have hrd : ∀ x ∈ es.toList, ∃ y, rd P k RU x = some y := fun x hx => by
    obtain ⟨kl, hkl⟩ := entries_read K hes h.keys x hx
    exact ⟨(kl, .lit (.bool true)), by simp [rd, hkl, RU]⟩
  refine ⟨_, ⟨es, clock, hb, ⟨by omega, hst, hrd⟩, by omega, rfl⟩, by simp [Maps.size, length_sorted, hlen], fun x hx kl hkl => ?_, fun kl hk => ?_⟩
  · obtain ⟨p, hp, rfl⟩ := List.mem_map.1 hx
    obtain ⟨j, hj, rfl⟩ := List.getElem_of_mem hp
    have hjl : j < es.toList.length := by simp; omega
    obtain ⟨_, h1, _⟩ := entries_at hes (List.getElem?_eq_getElem hjl)
    obtain ⟨y, hy⟩ := hrd _ (List.getElem_mem hjl)
    have hy1 := rd_key hy
    rw [h1, hkl] at hy1
    have hy1 := Option.some.inj hy1
    rw [has_eq, List.any_eq_true]
    refine ⟨y, mem_sorted.2 (List.mem_map.2 ⟨_, List.getElem_mem hjl, rg_of hy⟩), ?_⟩
    rw [← hy1]
    exact WideAt.sameKey_self (K.keyed.key hkl)
  · rw [has_eq, List.any_eq_true] at hk
    obtain ⟨y, hy, hs⟩ := hk
    obtain ⟨e, he, rfl⟩ := List.mem_map.1 (mem_sorted.1 hy)
    obtain ⟨j, hj⟩ := List.mem_iff_getElem?.1 he
    obtain ⟨hj', h1, _⟩ := entries_at hes hj
    obtain ⟨z, hz⟩ := hrd e he
    have hz1 := rd_key hz
    rw [rg_of hz] at hs
    refine ⟨lm[j].1, List.mem_map_of_mem (List.getElem_mem hj'), ?_⟩
    rw [← h1, hz1, WideAt.sameKey_eq hs]
def CollK (P : Program) (k : TypeId) (enc : κ → Value) (keys : List κ) (left : Lit → Bool) (ss : List κ) : Prop :=
  ss.Nodup ∧ (∀ x ∈ ss, x ∈ keys) ∧ ∀ x ∈ keys, ∀ kl, keyOf P k (enc x) = some kl → (x ∈ ss ↔ left kl = false)
theorem CollK.start {D0 : DataW Unit} {keys : List κ} (h : ∀ x ∈ keys, ∀ kl, keyOf P k (enc x) = some kl → has D0 kl = true) : CollK P k enc keys (has D0) [] :=
  ⟨List.nodup_nil, (fun x hx => by cases hx), fun x hx kl hk => by rw [h x hx kl hk]; simp⟩
theorem CollK.step [DecidableEq κ] (K : KeyT P k enc ok) {keys : List κ} (hok : ∀ x ∈ keys, ok x) {left : Lit → Bool} {ss : List κ} (h : CollK P k enc keys left ss) {x : κ} {kl : Lit} (hx : x ∈ keys) (hk : keyOf P k (enc x) = some kl) (hl : left kl = true) :
    CollK P k enc keys (fun z => left z && !z.sameKey kl) (ss ++ [x]) := by
  obtain ⟨h1, h2, h3⟩ := h
  have hn : x ∉ ss := fun hm => by rw [(h3 x hx kl hk).1 hm] at hl; cases hl
  refine ⟨List.nodup_append.2 ⟨h1, by simp, fun a ha c hc e => by
    rw [List.mem_singleton.1 hc] at e
    exact hn (e ▸ ha)⟩, fun y hy => ?_, fun y hy ky hky => ?_⟩
  · rcases List.mem_append.1 hy with h4 | h4
    · exact h2 y h4
    · rw [List.mem_singleton.1 h4]; exact hx
  · rw [List.mem_append, List.mem_singleton, h3 y hy ky hky]
    by_cases hyx : y = x
    · subst hyx
      rw [hk] at hky
      obtain rfl := Option.some.inj hky
      have := WideAt.sameKey_self (K.keyed.key hk)
      simp [this]
    · have hne : ky.sameKey kl = false := by
        rw [Bool.eq_false_iff]
        intro hs
        have e := WideAt.sameKey_eq hs
        subst e
        exact hyx (K.inj _ _ (hok y hy) (hok x hx) (K.keyed.inj hky hk))
      simp [hyx, hne]
theorem CollK.perm (K : KeyT P k enc ok) {keys : List κ} (hok : ∀ x ∈ keys, ok x) (hnd : keys.Nodup) {left : Lit → Bool} {ss : List κ} (h : CollK P k enc keys left ss) (hl : ∀ kl, left kl = false) : ss.Perm keys := by
  obtain ⟨h1, h2, h3⟩ := h
  refine (List.perm_ext_iff_of_nodup h1 hnd).2 fun x => ⟨h2 x, fun hx => ?_⟩
  obtain ⟨kl, hkl⟩ := K.reads x (hok x hx)
  exact (h3 x hx kl hkl).2 (hl kl)
end
end Go.Words

namespace Go.Proofs.YtpbdcppaiafbgaaGreat
open Go Go.RowKit Go.Words Go.Mesh Go.Maps
attribute [local go_sem] Oper.semAt_some

abbrev MpE (w : World) (b : Nat) (lm : List ((Int × Int) × Unit)) : Prop := Mp enc2 ok2 (fun _ : Unit => Value.bool true) w b lm
set_option maxRecDepth 100000 in
set_option maxHeartbeats 1000000 in
theorem keysE1_in (n : Nat) (hn : 1 ≤ n) (l Bm b : Nat) (lm : List ((Int × Int) × Unit)) (J Jx : List (Int × Int) → World → Prop)
    (hY : ∀ pre x W, J pre W → pre.length < lm.length → YieldAt Fence.wide (n - 1) Tryz.prog l #[enc2 x] W fun e W' =>
      (e = .returned (.bool true) ∧ J (pre ++ [x]) W' ∧ KeepsWalks W W') ∨ (e = .returned (.bool false) ∧ Jx (pre ++ [x]) W'))
    (W : World) (hJ : AbidesFrom W.heap.size J) (hm : W.cell? ⟨Bm, 0, none⟩ = some (.map (some b))) (hmp : MpE W b lm) (hlm : lm.length ≤ maxLen) (h0 : J [] W) :
    CallsIn Fence.wide n Tryz.prog 142 #[.func (.yield l) #[] #[], .pointer (some ⟨Bm, 0, none⟩)] W fun e W' => (∃ v, e = .returned v) ∧
      ((∃ ss : List (Int × Int), ss.Perm (lm.map (·.1)) ∧ J ss W') ∨ (∃ pre : List (Int × Int), Jx pre W')) := by
  obtain ⟨D0, hown, hsz, hh1, hh2⟩ := hmp.owns keyE hlm
  have hok : ∀ x ∈ lm.map (·.1), ok2 x := fun x hx => by
    obtain ⟨p, hp, rfl⟩ := List.mem_map.1 hx
    exact hmp.keys p hp
  have hnd := hmp.nodup
  have hst := CollK.start hh1
  have HhY := Lib.hid hY; clear hY
  have HhJ := Lib.hid hJ; clear hJ
  have Hhh1 := Lib.hid hh1; clear hh1; have Hhh2 := Lib.hid hh2; clear hh2; have Hhok := Lib.hid hok; clear hok; have Hhnd := Lib.hid hnd; clear hnd; have Hhst := Lib.hid hst; clear hst; have Hhmp := Lib.hid hmp; clear hmp; have Hhsz := Lib.hid hsz; clear hsz
  refine callsIn_of_wp Tryz.func142 rfl trivial ?_ rfl
  simp only [Tryz.ntmps142, List.size_toArray, List.length_cons, List.length_nil, Nat.reduceAdd, Nat.reduceSub, Array.replicate_succ, Array.replicate_zero, List.push_toArray, List.append_toArray, List.nil_append, List.cons_append]
  gi_wp2_with (first
    | (gi_at_range; refine wpListIn_range_own _ rfl _ 103 rfl 39 4 lawE Tryz.underlying103 RU b maxLen D0 rfl hown ?_; intro w0 hrg0 hg0 hs0)
    | fail)
  go_frame
  gi_loopw [3] (fun _ wr => ∃ (left : Lit → Bool) (cnt : Nat) (ss : List (Int × Int)), wr.ranges Tryz.prog 39 RU b W.heap.size maxLen D0 left cnt ∧ ss.length + cnt ≤ lm.length ∧ CollK Tryz.prog 39 enc2 (lm.map (·.1)) left ss ∧ J ss wr)
    (fun _ wr => wr.rangeLeft b W.heap.size)
  case atStart => exact ⟨_, _, [], hrg0, by rw [Hhsz.out]; simp, Hhst.out, HhJ.out [] W w0 none h0 hg0 (fun r e => by cases e)⟩
  case round =>
    obtain ⟨left, cnt, ss, hrg, hcs, hC, hJs⟩ := hrel
    gi_wp2_with (first
      | (gi_at_next; refine wpListIn_next_ranges _ rfl _ rfl 39 lawE RU id id (fun key kl hk => ⟨key, rfl⟩) (fun v _ _ => ⟨v, rfl⟩) b W.heap.size maxLen _ _ _ rfl hrg ?_ ?_)
      | fail)
    · intro hc0 hl0
      gi_wp2_with fail
      go_end0
      exact ⟨⟨_, rfl⟩, .inl ⟨ss, hC.perm keyE Hhok.out Hhnd.out hl0, hJs⟩⟩
    · intro key c kl yd yp w2 cnt2 hkey hlk hv hat hrg2 hlt hg2 hs2 hen
      obtain ⟨x, hx, hxk⟩ := Hhh2.out kl (has_true_of_atKey hat)
      obtain rfl : key = enc2 x := lawE.inj hkey hxk
      have hJ2 : J ss w2 := HhJ.out ss wr w2 (some W.heap.size) hJs hg2 (fun r e => by cases e; exact ⟨Nat.le_refl _, hrg.iter_walk⟩)
      have hC2 := hC.step keyE Hhok.out hx hkey hlk
      obtain ⟨x1, x2⟩ := x
      simp only [enc2] at hen
      have hJ3 : J ss (w2.alloc (.cells #[.int .i64 x1, .int .i64 x2] 39)) := HhJ.out ss w2 _ none hJ2 (World.grownBy_alloc w2 _ none) (fun r e => by cases e)
      have hrg3 := hrg2.of_walks (KeepsWalks.alloc w2 (.cells #[.int .i64 x1, .int .i64 x2] 39))
      obtain ⟨fn, tmps, assign, body, hy, hR⟩ := HhY.out ss (x1, x2) _ hJ3 (by omega)
      simp only [enc2] at hy
      clear hs2 hv hat
      have Hhx := Lib.hid hx; clear hx; have HhC2 := Lib.hid hC2; clear hC2; have HhJ3 := Lib.hid hJ3; clear hJ3; have Hhrg3 := Lib.hid hrg3; clear hrg3
      gi_wp2_with fail
      refine hR.mono ?_
      rintro e W3 (⟨rfl, hJ4, hk4⟩ | ⟨rfl, hJx4⟩)
      · have hrg4 := Hhrg3.out.of_walks hk4
        have HhJ4 := Lib.hid hJ4; clear hJ4
        gi_wp2_with fail
        go_roundw
        case rel => exact ⟨_, cnt2, ss ++ [(x1, x2)], hrg4, by rw [List.length_append, List.length_singleton]; omega, HhC2.out, HhJ4.out⟩
        case measure => rw [hrg4.left_eq, hrg.left_eq]; exact hlt
      · gi_wp2_with fail
        refine bodyPost_ret (results_none rfl _ _ _) rfl ?_
        exact ⟨⟨_, rfl⟩, .inr ⟨_, hJx4⟩⟩
theorem keysE_stops (n : Nat) (hn : 1 ≤ n) (Bm b : Nat) (lm : List ((Int × Int) × Unit)) (w : World) (hBm : Bm < w.heap.size) (hm : w.cell? ⟨Bm, 0, none⟩ = some (.map (some b))) (hmp : MpE w b lm) (hlm : lm.length ≤ maxLen) :
    SeqStopsK Fence.wide n Tryz.prog 142 #[.pointer (some ⟨Bm, 0, none⟩)] (fun x : Int × Int => #[enc2 x]) KeepsWalks (fun ss => ss.Perm (lm.map (·.1))) (fun _ => True) lm.length w := fun l J Jx W hW hJ _ hY h0 => by
  refine (keysE1_in n hn l Bm b lm J Jx hY W hJ ((hW.cell (p := ⟨Bm, 0, none⟩) hBm).trans hm) (hmp.below hW hmp.lt) hlm h0).mono ?_
  rintro e W' ⟨h1, h2 | ⟨pre, h2⟩⟩
  · exact ⟨h1, .inl h2⟩
  · exact ⟨h1, .inr ⟨pre, trivial, h2⟩⟩
set_option maxHeartbeats 1000000 in
theorem keysE_calls (mb : Option Nat) (w : World) :
    Calls Tryz.prog 109 #[.map mb] w fun e w' => e = .returned (.func (.func 142) #[] #[.pointer (some ⟨w.heap.size, 0, none⟩)]) ∧ w' = w.alloc (.cells #[.map mb] 103) := by
  go_enter Tryz.func109, Tryz.ntmps109
  go_wp2
  go_ret
  exact ⟨rfl, rfl⟩
end Go.Proofs.YtpbdcppaiafbgaaGreat

namespace Go.Proofs.YtpbdcppaiafbgaaGreat
open Go Go.RowKit Go.Words Go.Mesh Go.Maps
attribute [local go_sem] Oper.semAt_some

theorem infoE2 : (Tryz.prog.info? 39).map (fun i => (i.zero, i.size, i.bytes)) = some (some (.agg #[.int .i64 0, .int .i64 0]), 2, 16) := by kernel_rfl
def AtE (r : Nat) (x : Int × Int) (a0 : Array Value) (a' : Act) (W : World) : Prop := ∃ q, r ≤ q ∧ Bk W q 39 [.int .i64 x.1, .int .i64 x.2] ∧ a' = { tmps := (a0.setIfInBounds 7 (enc2 x)).setIfInBounds 5 (.pointer (some ⟨q, 0, none⟩)), defers := [] }
theorem atE_own (r : Nat) (x : Int × Int) (a0 : Array Value) (a' : Act) (B : Nat) : OwnFrom B (fun (_ : Unit) W => AtE r x a0 a' W) := fun _ X Y row ⟨q, h1, h2, h3⟩ hg hrow => by
  refine ⟨q, h1, (hg.block q h2.lt fun e => ?_).trans h2, h3⟩
  obtain ⟨o, ho, hc⟩ := (hrow q e.symm).2
  rw [show X.heap[q]? = _ from h2] at ho
  cases ho
  cases hc
set_option maxRecDepth 20000 in
set_option maxHeartbeats 1000000 in
theorem appseqE_calls {w : World} {Bm b : Nat} {lm : List ((Int × Int) × Unit)} (hBm : Bm < w.heap.size) (hm : w.cell? ⟨Bm, 0, none⟩ = some (.map (some b))) (hmp : MpE w b lm) (hlm : lm.length ≤ 1000000) :
    Calls Tryz.prog 161 #[.slice none 0 0, .func (.func 142) #[] #[.pointer (some ⟨Bm, 0, none⟩)]] w fun e w' =>
      (∃ (r : Value) (ss : List (Int × Int)), e = .returned r ∧ ss.Perm (lm.map (·.1)) ∧ w'.ownsRow w.heap.size 39 2 r ss.length (flat2 ss)) ∧ Below w.heap.size w w' := by
  refine (callsIn_wide (n := 6)).1 ?_
  refine callsIn_of_wp_marks Tryz.func161 rfl trivial ?_ rfl
  simp only [Tryz.ntmps161, List.size_toArray, List.length_cons, List.length_nil, Nat.reduceAdd, Nat.reduceSub, Array.replicate_succ, Array.replicate_zero, List.push_toArray, List.append_toArray, List.nil_append, List.cons_append]
  gi_wp2_with fail
  obtain ⟨gb, hgb⟩ : ∃ gb, gb = w.heap.size := ⟨_, rfl⟩
  rw [← hgb]
  obtain ⟨w0, hw0⟩ : ∃ w0, w0 = w.alloc (.cells #[.slice none 0 0] 25) := ⟨_, rfl⟩
  have hB1 : Below w.heap.size w w0 := by rw [hw0]; exact (Below.refl _ w).alloc (Nat.le_refl _) _
  have b1 : Boxed w0 gb 25 (.slice none 0 0) := by rw [hw0]; exact boxed_new' hgb _ _
  have hm0 : w0.cell? ⟨Bm, 0, none⟩ = some (.map (some b)) := (hB1.cell (p := ⟨Bm, 0, none⟩) hBm).trans hm
  have hmp0 : MpE w0 b lm := hmp.below hB1 hmp.lt
  have hsz : w0.heap.size = gb + 1 := by rw [hw0]; simp [hgb]
  rw [← hw0]
  clear hw0
  have hlt : gb ≤ w0.heap.size ∧ Bm < w0.heap.size ∧ gb + 1 ≤ w0.heap.size := by omega
  have hlx : lm.length ≤ maxLen := by unfold maxLen; omega
  have Hhgb := Lib.hid hgb; clear hgb; have Hhmp := Lib.hid hmp; clear hmp
  refine wpIn_rangeFunc_ownH rfl (by decide) (gf := 142) (lb := #[.pointer (some ⟨Bm, 0, none⟩)]) rfl trivial (enters_of Tryz.func142 (by kernel_rfl) rfl)
    (keysE_stops 5 (by decide) Bm b lm w0 hlt.2.1 hm0 hmp0 hlx) (fun h k => h.trans k) (fun W l o o' _ hl _ hw => KeepsWalks.putObj _ hl hw) (Below.refl _ _) (fun _ => rfl)
    (fun pre W => (∃ vv, Boxed W gb 25 vv ∧ W.ownsRow (gb + 1) 39 2 vv pre.length (flat2 pre) ∧ True) ∧ Below gb w W ∧ gb + 1 ≤ W.heap.size)
    (fun _ _ _ => False)
    ?hI ?hIx ?h0
    (fun x a' W => AtE (gb + 1) x #[.slice none 0 0, .func (.func 142) #[] #[.pointer (some ⟨Bm, 0, none⟩)], .pointer (some ⟨gb, 0, none⟩), undef, .slice none 0 0, undef, .func (.func 142) #[] #[.pointer (some ⟨Bm, 0, none⟩)], undef, undef, undef, undef, undef, undef] a' W)
    (fun x a' => atE_own _ x _ a' _) ?assign ?body ?done ?stop
  case hI =>
    refine OwnFrom.and (Own.from (holdsRow_own (gb + 1) gb _ _ 2 (fun pre : List (Int × Int) => pre.length) (fun pre : List (Int × Int) => flat2 pre) (fun _ _ => True)) _) (OwnFrom.and (ownFrom_below (by rw [Hhgb.out]; exact Nat.le_refl _) hlt.1) ?_)
    exact fun _ A C row hs hg _ => Nat.le_trans hs hg.size
  case hIx => exact fun _ _ _ _ _ h _ _ => h
  case h0 => exact ⟨⟨_, b1, World.ownsRow_nil _ _ _ _, trivial⟩, by rw [Hhgb.out]; exact hB1, hlt.2.2⟩
  case assign =>
    rintro l pre ⟨x1, x2⟩ W K ⟨⟨vv, hv, hrow, -⟩, hbl, hge⟩ hK
    have hKK := hK _ _ ((KeepsOthers.alloc W (.cells #[.int .i64 x1, .int .i64 x2] 39)).from _) (KeepsWalks.alloc W _) ⟨⟨vv, hv.alloc _, hrow.alloc _, trivial⟩, hbl.alloc (by omega) _, by simp; omega⟩ ⟨W.heap.size, hge, Bk.new W _ _, rfl⟩
    simp only [enc2]
    gi_wp2_with fail
    exact hKK
  case body =>
    rintro l pre ⟨x1, x2⟩ a' W hl hlr ⟨⟨vv, hv, hrow, -⟩, hbl, hge⟩ ⟨q, hq, hbq, rfl⟩ hN
    obtain ⟨i0, hi, hz0, hz1, hz2⟩ := info_parts infoE2
    have hc := hv.cell
    have q0 : W.cell? ⟨q, 0, none⟩ = some (.int .i64 x1) := hbq.cell 0
    have q1 : W.cell? ⟨q, 1, none⟩ = some (.int .i64 x2) := hbq.cell 1
    have hml : pre.length + 1 ≤ maxLen := by unfold maxLen; omega
    have hnew := Bk.new W 39 [.int .i64 x1, .int .i64 x2]
    have hcs : ∀ j u, ([.int .i64 x1, .int .i64 x2] : List Value)[j]? = some u → (W.alloc (.cells #[.int .i64 x1, .int .i64 x2] 39)).cell? ((⟨W.heap.size, 0, none⟩ : Addr).add j) = some u := fun j u hj => by
      rw [Addr.add_lit, Nat.zero_add]
      exact (hnew.cell j).trans hj
    clear hlr
    have Hhbq := Lib.hid hbq; clear hbq
    have Hhnew := Lib.hid hnew; clear hnew
    simp only [enc2]
    gi_wp2_with (gi_at_builtin; refine wpListIn_append_own _ rfl _ _ 25 rfl (gb + 1) 39 i0 (.agg #[.int .i64 0, .int .i64 0]) 2 16 Tryz.underlying25 hi hz0 hz1 hz2 rfl (by decide) _ _ _ rfl (hrow.alloc _) ⟨W.heap.size, 0, none⟩ 1 1 [.int .i64 x1, .int .i64 x2] rfl rfl hcs (by simp [Value.oneCell']) (by omega) (by omega) (by have := hbl.size; simp; omega) ?_; intro v' w1 hown' hgrow _; obtain ⟨g', cap', rfl⟩ := ownsRow_succ hown'; obtain ⟨hv1, hv2, hr2, hk2, hbb, hoth⟩ := own_append hv (by omega) hrow hge hown' hgrow; have hc1 := hv1.cell; have hf1 := hv1.frozen)
    have hr3 : (w1.setCell ⟨gb, 0, none⟩ (.slice (some ⟨g', 0, none⟩) (pre.length + 1) cap')).ownsRow (gb + 1) 39 2 (.slice (some ⟨g', 0, none⟩) (pre.length + 1) cap') (pre ++ [(x1, x2)]).length (flat2 (pre ++ [(x1, x2)])) := by
      rw [flat2_snoc, List.length_append]
      exact hr2
    exact ⟨hk2.from _, ⟨hk2.size, fun k o hk hw => hk2.same k o hk (by cases o <;> first | rfl | cases hw)⟩, ⟨⟨_, hv2, hr3⟩, hbl.trans (hbb gb (Nat.le_refl _)), Nat.le_trans hge hk2.size⟩⟩
  case done =>
    rintro D ys W hD hys ⟨⟨vv, hv, hrow, -⟩, hbl, hge⟩ hK
    have hc := hv.cell
    gi_wp2_with fail
    refine ⟨by simp, .inl ⟨_, _, rfl, run_takeDeferred hK, ?_⟩⟩
    refine ⟨_, results_tmp rfl _ _ _, ⟨_, ys, rfl, hys, ?_⟩, ?_⟩
    · rw [← Hhgb.out]
      exact ownsRow_putObj (own_base hrow (by omega)) _ hK rfl
    · rw [← Hhgb.out]
      exact hbl.trans (belowK_b (w := w0) hlt.1 W D _ _ hD hK rfl rfl)
  case stop =>
    rintro D c pre W hD hpre h hK
    exact h.elim
theorem collectE_calls {w : World} {Bm b : Nat} {lm : List ((Int × Int) × Unit)} (hBm : Bm < w.heap.size) (hm : w.cell? ⟨Bm, 0, none⟩ = some (.map (some b))) (hmp : MpE w b lm) (hlm : lm.length ≤ 1000000) :
    Calls Tryz.prog 140 #[.func (.func 142) #[] #[.pointer (some ⟨Bm, 0, none⟩)]] w fun e w' =>
      (∃ (r : Value) (ss : List (Int × Int)), e = .returned r ∧ ss.Perm (lm.map (·.1)) ∧ w'.ownsRow w.heap.size 39 2 r ss.length (flat2 ss)) ∧ Below w.heap.size w w' := by
  have hap := appseqE_calls hBm hm hmp hlm
  have Hhap := Lib.hid hap; clear hap; have Hhmp := Lib.hid hmp; clear hmp
  go_enter Tryz.func140, Tryz.ntmps140
  go_wp2_with fail
  refine Hhap.out.mono ?_
  rintro e w1 ⟨⟨r, ss, rfl, hp, hown⟩, hb⟩
  have Hhown := Lib.hid hown; clear hown; have Hhp := Lib.hid hp; clear hp
  go_wp2_with fail
  go_ret
  exact ⟨⟨_, ss, rfl, Hhp.out, Hhown.out⟩, hb⟩
theorem own_addrE {w : World} {base : Nat} {e : TypeId} {size n cap : Nat} {A : Option Addr} {xs : List Value} (h : w.ownsRow base e size (.slice A n cap) n xs) (hn : 0 < n) : ∃ g, A = some ⟨g, 0, none⟩ := by
  obtain ⟨m, rfl⟩ : ∃ m, n = m + 1 := ⟨n - 1, by omega⟩
  obtain ⟨g', c', h8⟩ := ownsRow_succ h
  injection h8 with h8
  exact ⟨_, h8⟩
theorem sortedge_all {w : World} {base : Nat} {v : Value} {ss : List (Int × Int)} (h : w.ownsRow base 39 2 v ss.length (flat2 ss)) (hl : ss.length ≤ 1000000) :
    Calls Tryz.prog 141 #[v, .func (.func 110) #[] #[]] w fun e w' =>
      e = .returned (.tuple #[]) ∧ (∃ L : List (Int × Int), L.Perm ss ∧ L.length = ss.length ∧ L.Pairwise (fun x y => ¬ ltE y x) ∧ w'.ownsRow base 39 2 v ss.length (flat2 L)) ∧ w.grownBy w' v.ownBlock := by
  obtain ⟨A, cap, rfl, hc⟩ := own_form h
  by_cases h0 : ss.length = 0
  · have h1 := AnyF.slices_SortFunc_none Tryz.sortEdge A cap (.func (.func 110) #[] #[]) w
    change Calls Tryz.prog 141 _ _ _ at h1
    have hss : ss = [] := List.length_eq_zero_iff.1 h0
    subst hss
    refine h1.mono ?_
    rintro e w' ⟨rfl, rfl⟩
    exact ⟨rfl, ⟨[], List.Perm.refl _, rfl, List.Pairwise.nil, h⟩, ⟨rfl, rfl, rfl, Nat.le_refl _, fun _ _ _ => rfl⟩⟩
  · obtain ⟨g, rfl⟩ := own_addrE h (by omega)
    exact sortedge_calls ss g cap base w h (by omega)
end Go.Proofs.YtpbdcppaiafbgaaGreat

namespace Go.Proofs.YtpbdcppaiafbgaaGreat
open Go Go.RowKit Go.Words Go.Mesh Go.Maps

set_option maxHeartbeats 1000000 in
theorem sortedE_calls {w : World} {Bm b : Nat} {lm : List ((Int × Int) × Unit)} (hBm : Bm < w.heap.size) (hm : w.cell? ⟨Bm, 0, none⟩ = some (.map (some b))) (hmp : MpE w b lm) (hlm : lm.length ≤ 1000000) :
    Calls Tryz.prog 108 #[.func (.func 142) #[] #[.pointer (some ⟨Bm, 0, none⟩)], .func (.func 110) #[] #[]] w fun e w' =>
      (∃ (r : Value) (L : List (Int × Int)), e = .returned r ∧ L.Perm (lm.map (·.1)) ∧ L.Pairwise (fun x y => ¬ ltE y x) ∧ w'.ownsRow w.heap.size 39 2 r L.length (flat2 L)) ∧ Below w.heap.size w w' := by
  have hco := collectE_calls hBm hm hmp hlm
  have Hhco := Lib.hid hco; clear hco; have Hhmp := Lib.hid hmp; clear hmp
  go_enter Tryz.func108, Tryz.ntmps108
  go_wp2_with fail
  refine Hhco.out.mono ?_
  rintro e w1 ⟨⟨r, ss, rfl, hp, hown⟩, hb⟩
  have hss : ss.length ≤ 1000000 := by rw [hp.length_eq, List.length_map]; exact hlm
  have hso := sortedge_all hown hss
  obtain ⟨A, cap, rfl, hc⟩ := own_form hown
  have hbs := hb.size
  have Hhown := Lib.hid hown; clear hown; have Hhp := Lib.hid hp; clear hp; have Hhso := Lib.hid hso; clear hso
  go_wp2_with fail
  refine Hhso.out.mono ?_
  rintro e w2 ⟨rfl, ⟨L, h1, h2, h3, h4⟩, hg⟩
  have hb2 := hb.grown hg hbs (fun q hq => (Hhown.out.lt q hq).1)
  have h5 := h1.trans Hhp.out
  rw [← h2] at h4
  have Hh4 := Lib.hid h4; clear h4; have Hh1 := Lib.hid h1; clear h1; have Hh3 := Lib.hid h3; clear h3; have Hh5 := Lib.hid h5; clear h5; have Hhg := Lib.hid hg; clear hg
  go_wp2_with fail
  go_ret
  exact ⟨⟨_, L, rfl, Hh5.out, Hh3.out, by have := Hh4.out; rw [h2] at this ⊢; exact this⟩, hb2⟩
set_option maxRecDepth 100000 in
set_option maxHeartbeats 1000000 in
theorem fit_calls (a b c n : Int) (w : World) (h : (0 ≤ a ∧ a < n) ∧ (0 ≤ b ∧ b < n) ∧ (0 ≤ c ∧ c < n)) (hd : a ≠ b ∧ b ≠ c ∧ c ≠ a) :
    Calls Tryz.prog 104 #[.agg #[.int .i64 a, .int .i64 b, .int .i64 c], .int .i64 n] w fun e w' => e = .returned (.bool true) ∧ Below w.heap.size w w' := by
  obtain ⟨⟨a1, a2⟩, ⟨b1, b2⟩, c1, c2⟩ := h
  obtain ⟨d1, d2, d3⟩ := hd
  have e1 : (a != b) = true := by rw [bne_iff_ne]; exact d1
  have e2 : (b != c) = true := by rw [bne_iff_ne]; exact d2
  have e3 : (c != a) = true := by rw [bne_iff_ne]; exact d3
  have hb1 := (Below.refl w.heap.size w).alloc (Nat.le_refl _) (.cells #[.int .i64 a, .int .i64 b, .int .i64 c] 57)
  have x0 : ∀ W : World, (Instr.index 57 (.agg #[.int .i64 a, .int .i64 b, .int .i64 c]) (.int .i64 0)).run Tryz.prog W = .ok (.int .i64 a) W := fun W => by kernel_rfl
  have x1 : ∀ W : World, (Instr.index 57 (.agg #[.int .i64 a, .int .i64 b, .int .i64 c]) (.int .i64 1)).run Tryz.prog W = .ok (.int .i64 b) W := fun W => by kernel_rfl
  have x2 : ∀ W : World, (Instr.index 57 (.agg #[.int .i64 a, .int .i64 b, .int .i64 c]) (.int .i64 2)).run Tryz.prog W = .ok (.int .i64 c) W := fun W => by kernel_rfl
  go_enter Tryz.func104, Tryz.ntmps104
  go_wp2
  refine wp_loop_rounds 4 ?_
  rw [rounds_succ]
  go_wp2
  rw [rounds_succ]
  go_wp2
  rw [rounds_succ]
  go_wp2
  rw [rounds_succ]
  go_wp2
  go_ret
  exact ⟨rfl, hb1⟩
theorem Surf_fits {N : Int} {T : List T3} (h : Surf N T) {t : Nat} (ht : t < T.length) : ((0 ≤ Mesh.vt T (3 * t) ∧ Mesh.vt T (3 * t) < N) ∧ (0 ≤ Mesh.vt T (3 * t + 1) ∧ Mesh.vt T (3 * t + 1) < N) ∧ (0 ≤ Mesh.vt T (3 * t + 2) ∧ Mesh.vt T (3 * t + 2) < N)) ∧
    Mesh.vt T (3 * t) ≠ Mesh.vt T (3 * t + 1) ∧ Mesh.vt T (3 * t + 1) ≠ Mesh.vt T (3 * t + 2) ∧ Mesh.vt T (3 * t + 2) ≠ Mesh.vt T (3 * t) := by
  have l0 := h.loop (3 * t) (by omega)
  have l1 := h.loop (3 * t + 1) (by omega)
  have l2 := h.loop (3 * t + 2) (by omega)
  rw [show nx (3 * t) = 3 * t + 1 by unfold nx; omega] at l0
  rw [show nx (3 * t + 1) = 3 * t + 2 by unfold nx; omega] at l1
  rw [show nx (3 * t + 2) = 3 * t by unfold nx; omega] at l2
  exact ⟨⟨h.rng _ (by omega), h.rng _ (by omega), h.rng _ (by omega)⟩, l0, l1, l2⟩
set_option maxRecDepth 20000 in
set_option maxHeartbeats 1000000 in
theorem index_fits {w : World} {B q : Nat} {sv : Value} {N : Int} {T : List T3} (hT : Sl 3 RTri w B sv T) (hB0 : B ≤ w.heap.size) (hs : Surf N T) (hq : q < w.heap.size) (hc : w.cell? ⟨q, 0, none⟩ = some (.int .i64 N)) :
    Calls Tryz.prog 136 #[sv, .func (.func 103) #[] #[.pointer (some ⟨q, 0, none⟩)]] w fun e w' => e = .returned (.int .i64 (-1)) ∧ Below w.heap.size w w' := by
  obtain ⟨A, cap, rfl, hcap⟩ := hT.form
  have hfew := hs.tmax
  have hf1 : ∀ (a b c : Int) (wz : World), Below w.heap.size w wz → (0 ≤ a ∧ a < N) ∧ (0 ≤ b ∧ b < N) ∧ (0 ≤ c ∧ c < N) → a ≠ b ∧ b ≠ c ∧ c ≠ a →
      Calls Tryz.prog 103 #[.agg #[.int .i64 a, .int .i64 b, .int .i64 c], .pointer (some ⟨q, 0, none⟩)] wz fun e w' => e = .returned (.bool false) ∧ Below wz.heap.size wz w' := fun a b c wz hz h1 h2 => by
    have hc1 : wz.cell? ⟨q, 0, none⟩ = some (.int .i64 N) := (hz.cell (p := ⟨q, 0, none⟩) hq).trans hc
    have hb1 := (Below.refl wz.heap.size wz).alloc (Nat.le_refl _) (.cells #[.int .i64 a, .int .i64 b, .int .i64 c] 57)
    have hc2 : (wz.alloc (.cells #[.int .i64 a, .int .i64 b, .int .i64 c] 57)).cell? ⟨q, 0, none⟩ = some (.int .i64 N) := (hb1.cell (p := ⟨q, 0, none⟩) (by show q < _; have := hz.size; omega)).trans hc1
    have hfi := fun W => fit_calls a b c N W h1 h2
    clear hc
    have HhT := Lib.hid hT; clear hT; have Hhfi := Lib.hid hfi; clear hfi; have Hh1 := Lib.hid h1; clear h1; have Hh2 := Lib.hid h2; clear h2
    go_enter Tryz.func103, Tryz.ntmps103
    go_wp2_with fail
    refine (Hhfi.out _).mono ?_
    rintro e w1 ⟨rfl, hb2⟩
    have hb3 := hb1.trans (hb2.mono hb1.size)
    go_wp2_with fail
    go_ret
    exact ⟨rfl, hb3⟩
  have hr := Below.refl w.heap.size w
  have HhT := Lib.hid hT; clear hT; have Hhf1 := Lib.hid hf1; clear hf1
  go_enter Tryz.func136, Tryz.ntmps136
  go_wp2_with fail
  go_loopw [8] (fun iv wr => ∃ t : Nat, t ≤ T.length ∧ iv = .int .i64 (t : Int) ∧ Below w.heap.size w wr) (fun iv _ => T.length - (intOf iv).toNat)
  case atStart => exact ⟨0, by omega, rfl, hr⟩
  case round =>
    obtain ⟨t, ht, rfl, hbel⟩ := hrel
    obtain ⟨w1, hw1⟩ : ∃ w1, w1 = wr := ⟨_, rfl⟩
    subst hw1
    by_cases htl : t < T.length
    · obtain ⟨b, o, rfl, hb, hcell⟩ := tri_cells (HhT.out.below keeps_tri (hbel.mono hB0)) htl
      have k0 := hcell 0 (by omega)
      have k1 := hcell 1 (by omega)
      have k2 := hcell 2 (by omega)
      simp only [Nat.add_zero] at k0
      have hfi := Hhf1.out (Mesh.vt T (3 * t)) (Mesh.vt T (3 * t + 1)) (Mesh.vt T (3 * t + 2)) w1 hbel (Surf_fits hs htl).1 (Surf_fits hs htl).2
      have htt : (t : Int) < (T.length : Int) := by omega
      clear hcell
      generalize Mesh.vt T (3 * t) = v0 at *
      generalize Mesh.vt T (3 * t + 1) = v1 at *
      generalize Mesh.vt T (3 * t + 2) = v2 at *
      have Hhfi := Lib.hid hfi; clear hfi
      go_wp2_with fail
      refine Hhfi.out.mono ?_
      rintro e w2 ⟨rfl, hb2⟩
      have hbel2 := hbel.trans (hb2.mono hbel.size)
      go_wp2_with fail
      exact ⟨⟨t + 1, by omega, by simp, hbel2⟩, by simp [intOf]; omega⟩
    · obtain rfl : t = T.length := by omega
      go_wp2_with fail
      go_ret
      exact ⟨rfl, hbel⟩
set_option maxHeartbeats 1000000 in
theorem fits_calls {w : World} {B : Nat} {sv : Value} {N : Int} {T : List T3} (hT : Sl 3 RTri w B sv T) (hB0 : B ≤ w.heap.size) (hs : Surf N T) :
    Calls Tryz.prog 61 #[.agg #[.int .i64 N, sv]] w fun e w' => e = .returned (.bool true) ∧ Below w.heap.size w w' := by
  obtain ⟨A, cap, rfl, hcap⟩ := hT.form
  have hfew := hs.tmax
  have hN0 := hs.n0
  have hN1 := hs.nmax
  have hbox := Bk.new w 24 [.int .i64 N, .slice A T.length cap]
  have hb1 := (Below.refl w.heap.size w).alloc (Nat.le_refl _) (.cells #[.int .i64 N, .slice A T.length cap] 24)
  have c0 := hbox.cell 0
  have c1 := hbox.cell 1
  simp only [List.getElem?_cons_zero, List.getElem?_cons_succ] at c0 c1
  have hbl := hbox.lt
  have hTA := hT.below keeps_tri (hb1.mono hB0)
  generalize hw0 : w.alloc (.cells #[.int .i64 N, .slice A T.length cap] 24) = w0 at *
  have hix := index_fits hTA (by omega) hs hbl c0
  have hcn : Calls Tryz.prog 102 #[.slice A T.length cap, .func (.func 103) #[] #[.pointer (some ⟨w.heap.size, 0, none⟩)]] w0 fun e w' => e = .returned (.bool false) ∧ Below w0.heap.size w0 w' := by
    clear hw0 c0 c1
    have HhT := Lib.hid hT; clear hT; have HhTA := Lib.hid hTA; clear hTA; have Hhbox := Lib.hid hbox; clear hbox; have Hhix := Lib.hid hix; clear hix
    go_enter Tryz.func102, Tryz.ntmps102
    go_wp2_with fail
    refine Hhix.out.mono ?_
    rintro e w1 ⟨rfl, hb2⟩
    go_wp2_with fail
    go_ret
    exact ⟨rfl, hb2⟩
  have hTl : ¬ (8192 : Int) < (T.length : Int) := by omega
  have HhT := Lib.hid hT; clear hT; have HhTA := Lib.hid hTA; clear hTA; have Hhbox := Lib.hid hbox; clear hbox; have Hhix := Lib.hid hix; clear hix; have Hhcn := Lib.hid hcn; clear hcn
  go_enter Tryz.func61, Tryz.ntmps61
  go_wp2_with fail
  refine Hhcn.out.mono ?_
  rintro e w1 ⟨rfl, hb2⟩
  have hb3 := hb1.trans (hb2.mono hb1.size)
  go_wp2_with fail
  go_ret
  exact ⟨rfl, hb3⟩
end Go.Proofs.YtpbdcppaiafbgaaGreat

namespace Go.Mesh
def ek (T : List T3) (c : Nat) : Int × Int := (min (vt T c) (vt T (nx c)), max (vt T c) (vt T (nx c)))
def EdgesIs (T : List T3) (L : List (Int × Int)) : Prop := L.Pairwise ltE ∧ ∀ e, e ∈ L ↔ ∃ c, c < 3 * T.length ∧ e = ek T c
theorem sorted_strict {L : List (Int × Int)} (h : L.Pairwise (fun x y => ¬ ltE y x)) (hn : L.Nodup) : L.Pairwise ltE := by
  refine List.Pairwise.imp₂ (fun {a b} h1 h2 => ?_) h hn
  unfold ltE at *
  have : a.1 ≠ b.1 ∨ a.2 ≠ b.2 := by
    rcases Decidable.em (a.1 = b.1) with h3 | h3
    · refine .inr fun h4 => h2 (Prod.ext h3 h4)
    · exact .inl h3
  omega
end Go.Mesh
namespace Go.Proofs.YtpbdcppaiafbgaaGreat
open Go Go.RowKit Go.Words Go.Mesh Go.Maps

set_option maxRecDepth 40000 in
set_option maxHeartbeats 2000000 in
theorem edges_calls {w : World} {B : Nat} {sv : Value} {N : Int} {T : List T3} (hT : Sl 3 RTri w B sv T) (hB0 : B ≤ w.heap.size) (hs : Surf N T) :
    Calls Tryz.prog 67 #[.agg #[.int .i64 N, sv]] w fun e w' => (∃ (r : Value) (L : List (Int × Int)), e = .returned r ∧ EdgesIs T L ∧ w'.ownsRow w.heap.size 39 2 r L.length (flat2 L)) ∧ Below w.heap.size w w' := by
  obtain ⟨A, cap, rfl, hcap⟩ := hT.form
  have hfew := hs.tmax
  have hnm := hs.nmax
  have hbox := Bk.new w 24 [.int .i64 N, .slice A T.length cap]
  have hb1 := (Below.refl w.heap.size w).alloc (Nat.le_refl _) (.cells #[.int .i64 N, .slice A T.length cap] 24)
  have c0 := hbox.cell 0
  have c1 := hbox.cell 1
  simp only [List.getElem?_cons_zero, List.getElem?_cons_succ] at c0 c1
  have hbl := hbox.lt
  have hTA := hT.below keeps_tri (hb1.mono hB0)
  generalize hw0 : w.alloc (.cells #[.int .i64 N, .slice A T.length cap] 24) = w0 at *
  have hfi := fits_calls hTA (by omega) hs
  have hmm := @run_makeMap Tryz.prog
  have HhT := Lib.hid hT; clear hT; have Hhbox := Lib.hid hbox; clear hbox; have HhTA := Lib.hid hTA; clear hTA; have Hhfi := Lib.hid hfi; clear hfi
  go_enter Tryz.func67, Tryz.ntmps67
  go_wp2_with fail
  refine Hhfi.out.mono ?_
  rintro e w1 ⟨rfl, hb2⟩
  have hz1 := hb2.size
  have hb3 := hb1.trans (hb2.mono hb1.size)
  have hT1 := HhTA.out.below keeps_tri (hb2.mono (by omega))
  have d1 : w1.cell? ⟨w.heap.size, 1, none⟩ = some (.slice A T.length cap) := (hb2.cell (p := ⟨w.heap.size, 1, none⟩) hbl).trans c1
  have hnew : MpE (w1.alloc (.map #[] 0)) w1.heap.size [] := Mp.new w1
  have hb4 := hb3.alloc hb3.size (.map #[] 0)
  have hb5 := (Below.refl w1.heap.size w1).alloc (Nat.le_refl _) (.map #[] 0)
  have d2 : (w1.alloc (.map #[] 0)).cell? ⟨w.heap.size, 1, none⟩ = some (.slice A T.length cap) := (hb5.cell (p := ⟨w.heap.size, 1, none⟩) (by show w.heap.size < _; omega)).trans d1
  have hzm : w1.heap.size < (w1.alloc (.map #[] 0)).heap.size := by simp
  have hT2 := hT1.below keeps_tri (hb5.mono (by omega))
  generalize hw2 : w1.alloc (.map #[] 0) = w2 at *
  obtain ⟨mb, hmb⟩ : ∃ mb, mb = w1.heap.size := ⟨_, rfl⟩
  rw [← hmb] at hnew hb5 hzm
  have hme := hmb.symm
  clear c0 c1 d1
  have HhT1 := Lib.hid hT1; clear hT1; have HhT2 := Lib.hid hT2; clear hT2; have Hhnew := Lib.hid hnew; clear hnew; have Hhmb := Lib.hid hmb; clear hmb; have Hhme := Lib.hid hme; clear hme
  go_wp2_with fail
  clear hmm hw0 hw2
  rw [Hhme.out]
  have hm1 : w1.heap.size ≤ mb := by rw [Hhmb.out]; exact Nat.le_refl _
  have hkey0 : ∀ e, e ∈ ([] : List ((Int × Int) × Unit)).map (·.1) ↔ ∃ c, c < 3 * 0 + 0 ∧ e = ek T c := fun e => ⟨fun h => (List.not_mem_nil h).elim, fun ⟨c, h, _⟩ => by omega⟩
  have Hhkey0 := Lib.hid hkey0; clear hkey0
  go_loopw [16] (fun iv wr => ∃ (t : Nat) (lm : List ((Int × Int) × Unit)), t ≤ T.length ∧ iv = .int .i64 (t : Int) ∧ MpE wr mb lm ∧ (∀ e, e ∈ lm.map (·.1) ↔ ∃ c, c < 3 * t + 0 ∧ e = ek T c) ∧ lm.length ≤ 3 * t + 0 ∧ Below mb w1 wr) (fun iv _ => T.length - (intOf iv).toNat)
  case atStart => exact ⟨0, [], by omega, rfl, Hhnew.out, Hhkey0.out, by simp, hb5⟩
  case round =>
    obtain ⟨t, lm, ht, rfl, hmp, hkey, hlen, hbel⟩ := hrel
    obtain ⟨w3, hw3⟩ : ∃ w3, w3 = wr := ⟨_, rfl⟩
    subst hw3
    have hmlt := hmp.lt
    by_cases htl : t < T.length
    · obtain ⟨b, o, rfl, hb, hcell⟩ := tri_cells (HhT1.out.below keeps_tri (hbel.mono (by omega))) htl
      have k0 := hcell 0 (by omega)
      have k1 := hcell 1 (by omega)
      have k2 := hcell 2 (by omega)
      simp only [Nat.add_zero] at k0
      clear hcell
      have htt : (t : Int) < (T.length : Int) := by omega
      have hvt : ∀ k, k < 3 → Mesh.vt T (3 * t + k) = ([Mesh.vt T (3 * t), Mesh.vt T (3 * t + 1), Mesh.vt T (3 * t + 2)].getD k 0) := fun k hk => by
        have : k = 0 ∨ k = 1 ∨ k = 2 := by omega
        rcases this with rfl | rfl | rfl <;> rfl
      have hrng : ∀ k, k < 3 → 0 ≤ Mesh.vt T (3 * t + k) ∧ Mesh.vt T (3 * t + k) < 4096 := fun k hk => by have := hs.rng (3 * t + k) (by omega); omega
      have hq := Bk.new w3 57 [.int .i64 (Mesh.vt T (3 * t)), .int .i64 (Mesh.vt T (3 * t + 1)), .int .i64 (Mesh.vt T (3 * t + 2))]
      have hmp2 : MpE (w3.alloc (.cells #[.int .i64 (Mesh.vt T (3 * t)), .int .i64 (Mesh.vt T (3 * t + 1)), .int .i64 (Mesh.vt T (3 * t + 2))] 57)) mb lm := hmp.alloc _
      have hbel2 := hbel.alloc (by omega) (.cells #[.int .i64 (Mesh.vt T (3 * t)), .int .i64 (Mesh.vt T (3 * t + 1)), .int .i64 (Mesh.vt T (3 * t + 2))] 57)
      have Hhmp := Lib.hid hmp; clear hmp; have Hhkey := Lib.hid hkey; clear hkey; have Hhvt := Lib.hid hvt; clear hvt; have Hhrng := Lib.hid hrng; clear hrng; have Hhq := Lib.hid hq; clear hq; have Hhmp2 := Lib.hid hmp2; clear hmp2; have Hhbel2 := Lib.hid hbel2; clear hbel2
      go_wp2_with fail
      have hq := Hhq.out
      have hmp2 := Hhmp2.out
      have hbel2 := Hhbel2.out
      clear Hhq Hhmp2 Hhbel2 k0 k1 k2
      generalize w3.alloc (.cells #[.int .i64 (Mesh.vt T (3 * t)), .int .i64 (Mesh.vt T (3 * t + 1)), .int .i64 (Mesh.vt T (3 * t + 2))] 57) = w4 at *
      have hqm : mb ≠ w3.heap.size := by omega
      generalize w3.heap.size = q at *
      have Hhq := Lib.hid hq; clear hq; have Hhmp2 := Lib.hid hmp2; clear hmp2; have Hhbel2 := Lib.hid hbel2; clear hbel2
      go_loopw [20] (fun kv wr => ∃ (k : Nat) (lm : List ((Int × Int) × Unit)), k ≤ 3 ∧ kv = .int .i64 (k : Int) ∧ MpE wr mb lm ∧ (∀ e, e ∈ lm.map (·.1) ↔ ∃ c, c < 3 * t + k ∧ e = ek T c) ∧ lm.length ≤ 3 * t + k ∧ Bk wr q 57 [.int .i64 (Mesh.vt T (3 * t)), .int .i64 (Mesh.vt T (3 * t + 1)), .int .i64 (Mesh.vt T (3 * t + 2))] ∧ Below mb w1 wr) (fun kv _ => 3 - (intOf kv).toNat)
      case atStart => exact ⟨0, lm, by omega, rfl, Hhmp2.out, Hhkey.out, hlen, Hhq.out, Hhbel2.out⟩
      case round =>
        clear Hhmp2 Hhkey hlen Hhq Hhbel2 Hhmp hmlt
        obtain ⟨k, lm, hk, rfl, hmp, hkey, hlen, hq, hbel⟩ := hrel
        obtain ⟨w5, hw5⟩ : ∃ w5, w5 = wr := ⟨_, rfl⟩
        subst hw5
        by_cases hk3 : k < 3
        · have hki : (k : Int) < 3 := by omega
          obtain ⟨k9, hk9, hk9b⟩ : ∃ k9 : Nat, ((k : Int) + 1) % 3 = (k9 : Int) ∧ (k + 1) % 3 = k9 := ⟨(k + 1) % 3, by omega, rfl⟩
          have hk93 : k9 < 3 := by omega
          have ca : w5.cell? ⟨q, k, none⟩ = some (.int .i64 (Mesh.vt T (3 * t + k))) := by
            rw [hq.cell k, Hhvt.out k hk3]
            have : k = 0 ∨ k = 1 ∨ k = 2 := by omega
            rcases this with rfl | rfl | rfl <;> rfl
          have cb : w5.cell? ⟨q, k9, none⟩ = some (.int .i64 (Mesh.vt T (3 * t + k9))) := by
            rw [hq.cell k9, Hhvt.out k9 hk93]
            have : k9 = 0 ∨ k9 = 1 ∨ k9 = 2 := by omega
            rcases this with rfl | rfl | rfl <;> rfl
          have hek : ek T (3 * t + k) = (min (Mesh.vt T (3 * t + k)) (Mesh.vt T (3 * t + k9)), max (Mesh.vt T (3 * t + k)) (Mesh.vt T (3 * t + k9))) := by
            unfold ek
            rw [show nx (3 * t + k) = 3 * t + k9 by unfold nx; omega]
          have ra := Hhrng.out k hk3
          have rb := Hhrng.out k9 hk93
          generalize Mesh.vt T (3 * t + k) = x at *
          generalize Mesh.vt T (3 * t + k9) = y at *
          obtain ⟨xa, xb⟩ := ra
          obtain ⟨ya, yb⟩ := rb
          have hokk : ok2 (min x y, max x y) := ⟨by unfold I64; omega, by unfold I64; omega⟩
          have hkey2 : ∀ e, e ∈ (put lm (min x y, max x y) ()).map (·.1) ↔ ∃ c, c < 3 * t + (k + 1) ∧ e = ek T c := fun e => by
            rw [keys_put, hkey e, ← hek]
            constructor
            · rintro (h | ⟨c, h1, h2⟩)
              · exact ⟨3 * t + k, by omega, h⟩
              · exact ⟨c, by omega, h2⟩
            · rintro ⟨c, h1, h2⟩
              by_cases hck : c = 3 * t + k
              · exact .inl (by rw [h2, hck])
              · exact .inr ⟨c, by omega, h2⟩
          have hlen2 : (put lm (min x y, max x y) ()).length ≤ 3 * t + (k + 1) := by have := length_put_le lm (min x y, max x y) (); omega
          have hmpd := hmp.drew
          have Hhmp := Lib.hid hmp; clear hmp; have Hhkey := Lib.hid hkey; clear hkey; have Hhek := Lib.hid hek; clear hek; have Hhokk := Lib.hid hokk; clear hokk; have Hhkey2 := Lib.hid hkey2; clear hkey2; have Hhlen2 := Lib.hid hlen2; clear hlen2; have Hhmpd := Lib.hid hmpd; clear hmpd; have Hhq := Lib.hid hq; clear hq; have Hhk9b := Lib.hid hk9b; clear hk9b
          go_wp2_with fail
          refine Go.Canon.wp_region_text mixed (by kernel_rfl) ?_
          go_wp2_with fail
          refine Go.Canon.chk (by rfl) ?_
          go_wp2_with (at_mapUpdate; refine wpList_put _ rfl _ _ _ 103 rfl 39 4 keyE Tryz.underlying103 mb lm rfl Hhmpd.out (min x y, max x y) rfl Hhokk.out () rfl ?_; intro w6 hmp6 hgr6 hsz6; have Hhmp6 := Lib.hid hmp6; clear hmp6; have Hhgr6 := Lib.hid hgr6; clear hgr6; clear hsz6)
          have hq6 := (Hhq.out.drew).grown Hhgr6.out (by intro e; injection e with e; omega)
          have hbel6 := (hbel.drew).grown Hhgr6.out (by have := Hhmp.out.lt; show mb ≤ w5.heap.size; omega) (fun r hr => by cases hr; exact Nat.le_refl _)
          exact ⟨⟨k + 1, _, by omega, by simp, Hhmp6.out, Hhkey2.out, Hhlen2.out, hq6, hbel6⟩, by simp [intOf]; omega⟩
        · obtain rfl : k = 3 := by omega
          have hkey3 : ∀ e, e ∈ lm.map (·.1) ↔ ∃ c, c < 3 * (t + 1) + 0 ∧ e = ek T c := fun e => by rw [hkey e, show 3 * (t + 1) + 0 = 3 * t + 3 by omega]
          have Hhmp := Lib.hid hmp; clear hmp; have Hhkey := Lib.hid hkey; clear hkey; have Hhkey3 := Lib.hid hkey3; clear hkey3; have Hhq := Lib.hid hq; clear hq
          go_wp2_with fail
          exact ⟨⟨t + 1, lm, by omega, by simp, Hhmp.out, Hhkey3.out, by omega, hbel⟩, by simp [intOf]; omega⟩
    · obtain rfl : t = T.length := by omega
      have hke := keysE_calls (some mb) w3
      have hb6 : Below mb w1 (w3.alloc (.cells #[.map (some mb)] 103)) := hbel.alloc (by omega) _
      have hmp6 : MpE (w3.alloc (.cells #[.map (some mb)] 103)) mb lm := hmp.alloc _
      have hso := sortedE_calls (w := w3.alloc (.cells #[.map (some mb)] 103)) (Bm := w3.heap.size) (b := mb) (by simp) (Boxed.new w3 _ _).cell hmp6 (by omega)
      have hsz : (w3.alloc (.cells #[.map (some mb)] 103)).heap.size = w3.heap.size + 1 := by simp
      have hkn := hmp.nodup
      have Hhmp := Lib.hid hmp; clear hmp; have Hhkey := Lib.hid hkey; clear hkey; have Hhke := Lib.hid hke; clear hke; have Hhmp6 := Lib.hid hmp6; clear hmp6; have Hhso := Lib.hid hso; clear hso; have Hhkn := Lib.hid hkn; clear hkn
      go_wp2_with fail
      refine Hhke.out.mono ?_
      rintro e w4 ⟨rfl, rfl⟩
      go_wp2_with fail
      refine Hhso.out.mono ?_
      rintro e w5 ⟨⟨r, L, rfl, hp, hso2, hown⟩, hb7⟩
      have hb8 : Below w.heap.size w w5 := (hb3.trans (hb6.mono (by omega))).trans (hb7.mono (by omega))
      have hL : EdgesIs T L := ⟨sorted_strict hso2 (hp.nodup_iff.2 Hhkn.out), fun e => by rw [hp.mem_iff, Hhkey.out e]; exact ⟨fun ⟨c, h1, h2⟩ => ⟨c, by omega, h2⟩, fun ⟨c, h1, h2⟩ => ⟨c, by omega, h2⟩⟩⟩
      have hown2 := own_base hown (by omega : w.heap.size ≤ _)
      have Hhp := Lib.hid hp; clear hp; have Hhso2 := Lib.hid hso2; clear hso2; have Hhown := Lib.hid hown; clear hown; have HhL := Lib.hid hL; clear hL; have Hhown2 := Lib.hid hown2; clear hown2
      go_wp2_with fail
      go_ret
      exact ⟨⟨_, L, rfl, HhL.out, Hhown2.out⟩, hb8⟩
end Go.Proofs.YtpbdcppaiafbgaaGreat

namespace Go.Mesh
section
variable {N : Int} {T : List T3} {L : List (Int × Int)}
theorem ek_near (h : Surf N T) {a b : Int} : (∃ c, c < 3 * T.length ∧ (a, b) = ek T c) ↔ a < b ∧ near T a b = true := by
  constructor
  · rintro ⟨c, hc, he⟩
    have hl := h.loop c hc
    have hr := h.rng c hc
    unfold ek at he
    have h1 : a = min (vt T c) (vt T (nx c)) := congrArg Prod.fst he
    have h2 : b = max (vt T c) (vt T (nx c)) := congrArg Prod.snd he
    have hn : near T (vt T c) (vt T (nx c)) = true := (near_iff h hr _).2 ((link_mem h hr _).2 ⟨c, hc, rfl, .inl rfl⟩)
    rcases Int.lt_or_gt_of_ne hl with h3 | h3
    · rw [show a = vt T c by omega, show b = vt T (nx c) by omega]
      exact ⟨h3, hn⟩
    · rw [show a = vt T (nx c) by omega, show b = vt T c by omega, near_comm]
      exact ⟨h3, hn⟩
  · rintro ⟨hab, hn⟩
    have ho := near_out h hn
    obtain ⟨c, hc, h1, h2⟩ := (link_mem h ho.1 b).1 ((near_iff h ho.1 b).1 hn)
    rcases h2 with h2 | h2
    · refine ⟨c, hc, ?_⟩
      unfold ek
      rw [h1, ← h2]
      exact Prod.ext (by show a = min a b; omega) (by show b = max a b; omega)
    · refine ⟨pv c, by unfold pv; omega, ?_⟩
      unfold ek
      have e : nx (pv c) = c := by unfold nx pv; omega
      rw [e, h1, ← h2]
      exact Prod.ext (by show a = min b a; omega) (by show b = max b a; omega)
theorem EdgesIs.mem (h : Surf N T) (hL : EdgesIs T L) (a b : Int) : (a, b) ∈ L ↔ a < b ∧ near T a b = true := by rw [hL.2, ek_near h]
theorem EdgesIs.rng (h : Surf N T) (hL : EdgesIs T L) {e : Int × Int} (he : e ∈ L) : 0 ≤ e.1 ∧ e.1 < e.2 ∧ e.2 < N := by
  obtain ⟨a, b⟩ := e
  have h1 := (hL.mem h a b).1 he
  have h2 := near_out h h1.2
  exact ⟨h2.1.1, h1.1, h2.2.2⟩
def Ahead (L : List (Int × Int)) (k : Nat) (a b : Int) : Prop := k ≤ L.length ∧ (∀ e ∈ L.take k, ltE e (a, b)) ∧ ∀ e ∈ L.drop k, ¬ ltE e (a, b)
theorem Ahead.start (h : Surf N T) (hL : EdgesIs T L) : Ahead L 0 0 1 := ⟨Nat.zero_le _, (fun e he => by simp at he), fun e he hlt => by
  have := hL.rng h (by simpa using he)
  unfold ltE at hlt
  simp only at hlt
  omega⟩
theorem Ahead.hit (h : Surf N T) (hL : EdgesIs T L) {k : Nat} {a b : Int} (hk : Ahead L k a b) (hab : a < b) (hn : near T a b = true) : L[k]? = some (a, b) ∧ Ahead L (k + 1) a (b + 1) := by
  obtain ⟨h1, h2, h3⟩ := hk
  have hm := (hL.mem h a b).2 ⟨hab, hn⟩
  have hd : (a, b) ∈ L.drop k := by
    rw [← List.take_append_drop k L] at hm
    rcases List.mem_append.1 hm with h4 | h4
    · exact absurd (h2 _ h4) (by unfold ltE; simp)
    · exact h4
  have hkl : k < L.length := by
    rcases Nat.lt_or_ge k L.length with h4 | h4
    · exact h4
    · rw [List.drop_eq_nil_of_le h4] at hd; cases hd
  have hpw : (L.drop k).Pairwise ltE := hL.1.sublist (List.drop_sublist k L)
  rw [List.drop_eq_getElem_cons hkl] at hd hpw h3
  have hpw := List.pairwise_cons.1 hpw
  have hLk : L[k] = (a, b) := by
    rcases List.mem_cons.1 hd with h4 | h4
    · exact h4.symm
    · exact absurd (hpw.1 _ h4) (h3 _ (List.mem_cons_self ..))
  refine ⟨by rw [List.getElem?_eq_getElem hkl, hLk], hkl, fun e he => ?_, fun e he hlt => ?_⟩
  · rw [List.take_succ_eq_append_getElem hkl, hLk] at he
    rcases List.mem_append.1 he with h4 | h4
    · have h5 : e.1 < a ∨ (e.1 = a ∧ e.2 < b) := h2 e h4
      show e.1 < a ∨ (e.1 = a ∧ e.2 < b + 1)
      omega
    · rw [List.mem_singleton.1 h4]
      exact .inr ⟨rfl, by show b < b + 1; omega⟩
  · have := hpw.1 e he
    rw [hLk] at this
    have hlt2 : e.1 < a ∨ (e.1 = a ∧ e.2 < b + 1) := hlt
    have this2 : a < e.1 ∨ (a = e.1 ∧ b < e.2) := this
    omega
theorem Ahead.row (h : Surf N T) (hL : EdgesIs T L) {k : Nat} {a b : Int} (hk : Ahead L k a b) (hb : N ≤ b) : Ahead L k (a + 1) (a + 1 + 1) := by
  obtain ⟨h1, h2, h3⟩ := hk
  refine ⟨h1, fun e he => ?_, fun e he hlt => ?_⟩
  · have := h2 e he
    unfold ltE at *
    simp only at *
    omega
  · have h4 := h3 e he
    have := hL.rng h (List.mem_of_mem_drop he)
    unfold ltE at *
    simp only at *
    omega
theorem Ahead.all (h : Surf N T) (hL : EdgesIs T L) {k : Nat} {a b : Int} (hk : Ahead L k a b) (ha : N ≤ a) : k = L.length := by
  obtain ⟨h1, _, h3⟩ := hk
  rcases Nat.lt_or_ge k L.length with h4 | h4
  · exfalso
    have h5 : L[k] ∈ L.drop k := by rw [List.drop_eq_getElem_cons h4]; exact List.mem_cons_self ..
    have h6 := h3 _ h5
    have := hL.rng h (List.mem_of_mem_drop h5)
    unfold ltE at h6
    simp only at h6
    omega
  · omega
theorem EdgesIs.nodup (hL : EdgesIs T L) : L.Nodup := hL.1.imp fun {x y} h e => by subst e; unfold ltE at h; omega
end
end Go.Mesh
