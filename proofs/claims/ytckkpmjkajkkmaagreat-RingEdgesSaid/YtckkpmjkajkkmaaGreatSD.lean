/- Walks: slices.AppendSeq, Collect and SortedFunc of a map's edges. -/
import Derived.Test.YtckkpmjkajkkmaaGreatSC
import Derived.Test.YtckkpmjkajkkmaaGreatTJ
import Derived.Shelf.SlSortCmp.NoneTotal
namespace Go.Proofs.YtckkpmjkajkkmaaGreat
open Go Go.RowKit Go.Words Go.Mesh Go.Maps
attribute [local go_sem] Oper.semAt_some

theorem infoE2 : (Tryz.prog.info? 34).map (fun i => (i.zero, i.size, i.bytes)) = some (some (.agg #[.int .i64 0, .int .i64 0]), 2, 16) := by kernel_rfl
/-- Where a round's edge lies. -/
def AtE (r : Nat) (x : Int × Int) (a0 : Array Value) (a' : Act) (W : World) : Prop := ∃ q, r ≤ q ∧ Bk W q 34 [.int .i64 x.1, .int .i64 x.2] ∧ a' = { tmps := (a0.setIfInBounds 7 (enc2 x)).setIfInBounds 5 (.pointer (some ⟨q, 0, none⟩)), defers := [] }
theorem atE_own (r : Nat) (x : Int × Int) (a0 : Array Value) (a' : Act) (B : Nat) : OwnFrom B (fun (_ : Unit) W => AtE r x a0 a' W) := fun _ X Y row ⟨q, h1, h2, h3⟩ hg hrow => by
  refine ⟨q, h1, (hg.block q h2.lt fun e => ?_).trans h2, h3⟩
  obtain ⟨o, ho, hc⟩ := (hrow q e.symm).2
  rw [show X.heap[q]? = _ from h2] at ho
  cases ho
  cases hc
set_option maxRecDepth 20000 in
set_option maxHeartbeats 1000000 in
theorem appseqE_calls {w : World} {Bm b : Nat} {lm : List ((Int × Int) × Unit)} (hBm : Bm < w.heap.size) (hm : w.cell? ⟨Bm, 0, none⟩ = some (.map (some b))) (hmp : MpE w b lm) (hlm : lm.length ≤ 1000000) :
    Calls Tryz.prog 46 #[.slice none 0 0, .func (.func 35) #[] #[.pointer (some ⟨Bm, 0, none⟩)]] w fun e w' =>
      (∃ (r : Value) (ss : List (Int × Int)), e = .returned r ∧ ss.Perm (lm.map (·.1)) ∧ w'.ownsRow w.heap.size 34 2 r ss.length (flat2 ss)) ∧ Below w.heap.size w w' := by
  refine (callsIn_wide (n := 6)).1 ?_
  refine callsIn_of_wp_marks Tryz.func46 rfl trivial ?_ rfl
  simp only [Tryz.ntmps46, List.size_toArray, List.length_cons, List.length_nil, Nat.reduceAdd, Nat.reduceSub, Array.replicate_succ, Array.replicate_zero, List.push_toArray, List.append_toArray, List.nil_append, List.cons_append]
  gi_wp2_with fail
  obtain ⟨gb, hgb⟩ : ∃ gb, gb = w.heap.size := ⟨_, rfl⟩
  rw [← hgb]
  obtain ⟨w0, hw0⟩ : ∃ w0, w0 = w.alloc (.cells #[.slice none 0 0] 28) := ⟨_, rfl⟩
  have hB1 : Below w.heap.size w w0 := by rw [hw0]; exact (Below.refl _ w).alloc (Nat.le_refl _) _
  have b1 : Boxed w0 gb 28 (.slice none 0 0) := by rw [hw0]; exact boxed_new' hgb _ _
  have hm0 : w0.cell? ⟨Bm, 0, none⟩ = some (.map (some b)) := (hB1.cell (p := ⟨Bm, 0, none⟩) hBm).trans hm
  have hmp0 : MpE w0 b lm := hmp.below hB1 hmp.lt
  have hsz : w0.heap.size = gb + 1 := by rw [hw0]; simp [hgb]
  rw [← hw0]
  clear hw0
  have hlt : gb ≤ w0.heap.size ∧ Bm < w0.heap.size ∧ gb + 1 ≤ w0.heap.size := by omega
  have hlx : lm.length ≤ maxLen := by unfold maxLen; omega
  have Hhgb := Lib.hid hgb; clear hgb; have Hhmp := Lib.hid hmp; clear hmp
  refine wpIn_rangeFunc_ownH rfl (by decide) (gf := 35) (lb := #[.pointer (some ⟨Bm, 0, none⟩)]) rfl trivial (enters_of Tryz.func35 (by kernel_rfl) rfl)
    (keysE_stops 5 (by decide) Bm b lm w0 hlt.2.1 hm0 hmp0 hlx) (fun h k => h.trans k) (fun W l o o' _ hl _ hw => KeepsWalks.putObj _ hl hw) (Below.refl _ _) (fun _ => rfl)
    (fun pre W => (∃ vv, Boxed W gb 28 vv ∧ W.ownsRow (gb + 1) 34 2 vv pre.length (flat2 pre) ∧ True) ∧ Below gb w W ∧ gb + 1 ≤ W.heap.size)
    (fun _ _ _ => False)
    ?hI ?hIx ?h0
    (fun x a' W => AtE (gb + 1) x #[.slice none 0 0, .func (.func 35) #[] #[.pointer (some ⟨Bm, 0, none⟩)], .pointer (some ⟨gb, 0, none⟩), undef, .slice none 0 0, undef, .func (.func 35) #[] #[.pointer (some ⟨Bm, 0, none⟩)], undef, undef, undef, undef, undef, undef] a' W)
    (fun x a' => atE_own _ x _ a' _) ?assign ?body ?done ?stop
  case hI =>
    refine OwnFrom.and (Own.from (holdsRow_own (gb + 1) gb _ _ 2 (fun pre : List (Int × Int) => pre.length) (fun pre : List (Int × Int) => flat2 pre) (fun _ _ => True)) _) (OwnFrom.and (ownFrom_below (by rw [Hhgb.out]; exact Nat.le_refl _) hlt.1) ?_)
    exact fun _ A C row hs hg _ => Nat.le_trans hs hg.size
  case hIx => exact fun _ _ _ _ _ h _ _ => h
  case h0 => exact ⟨⟨_, b1, World.ownsRow_nil _ _ _ _, trivial⟩, by rw [Hhgb.out]; exact hB1, hlt.2.2⟩
  case assign =>
    rintro l pre ⟨x1, x2⟩ W K ⟨⟨vv, hv, hrow, -⟩, hbl, hge⟩ hK
    have hKK := hK _ _ ((KeepsOthers.alloc W (.cells #[.int .i64 x1, .int .i64 x2] 34)).from _) (KeepsWalks.alloc W _) ⟨⟨vv, hv.alloc _, hrow.alloc _, trivial⟩, hbl.alloc (by omega) _, by simp; omega⟩ ⟨W.heap.size, hge, Bk.new W _ _, rfl⟩
    simp only [enc2]
    gi_wp2_with fail
    exact hKK
  case body =>
    rintro l pre ⟨x1, x2⟩ a' W hl hlr ⟨⟨vv, hv, hrow, -⟩, hbl, hge⟩ ⟨q, hq, hbq, rfl⟩ hN
    obtain ⟨i0, hi, hz0, hz1, hz2⟩ := info_parts infoE2
    have hc := hv.cell
    have q0 : W.cell? ⟨q, 0, none⟩ = some (.int .i64 x1) := hbq.cell 0
    have q1 : W.cell? ⟨q, 1, none⟩ = some (.int .i64 x2) := hbq.cell 1
    have hml : pre.length + 1 ≤ maxLen := by unfold maxLen; omega
    have hnew := Bk.new W 34 [.int .i64 x1, .int .i64 x2]
    have hcs : ∀ j u, ([.int .i64 x1, .int .i64 x2] : List Value)[j]? = some u → (W.alloc (.cells #[.int .i64 x1, .int .i64 x2] 34)).cell? ((⟨W.heap.size, 0, none⟩ : Addr).add j) = some u := fun j u hj => by
      rw [Addr.add_lit, Nat.zero_add]
      exact (hnew.cell j).trans hj
    clear hlr
    have Hhbq := Lib.hid hbq; clear hbq
    have Hhnew := Lib.hid hnew; clear hnew
    simp only [enc2]
    gi_wp2_with (gi_at_builtin; refine wpListIn_append_own _ rfl _ _ 28 rfl (gb + 1) 34 i0 (.agg #[.int .i64 0, .int .i64 0]) 2 16 Tryz.underlying28 hi hz0 hz1 hz2 rfl (by decide) _ _ _ rfl (hrow.alloc _) ⟨W.heap.size, 0, none⟩ 1 1 [.int .i64 x1, .int .i64 x2] rfl rfl hcs (by simp [Value.oneCell']) (by omega) (by omega) (by have := hbl.size; simp; omega) ?_; intro v' w1 hown' hgrow _; obtain ⟨g', cap', rfl⟩ := ownsRow_succ hown'; obtain ⟨hv1, hv2, hr2, hk2, hbb, hoth⟩ := own_append hv (by omega) hrow hge hown' hgrow; have hc1 := hv1.cell; have hf1 := hv1.frozen)
    have hr3 : (w1.setCell ⟨gb, 0, none⟩ (.slice (some ⟨g', 0, none⟩) (pre.length + 1) cap')).ownsRow (gb + 1) 34 2 (.slice (some ⟨g', 0, none⟩) (pre.length + 1) cap') (pre ++ [(x1, x2)]).length (flat2 (pre ++ [(x1, x2)])) := by
      rw [flat2_snoc, List.length_append]
      exact hr2
    exact ⟨hk2.from _, ⟨hk2.size, fun k o hk hw => hk2.same k o hk (by cases o <;> first | rfl | cases hw)⟩, ⟨⟨_, hv2, hr3⟩, hbl.trans (hbb gb (Nat.le_refl _)), Nat.le_trans hge hk2.size⟩⟩
  case done =>
    rintro D ys W hD hys ⟨⟨vv, hv, hrow, -⟩, hbl, hge⟩ hK
    have hc := hv.cell
    gi_wp2_with fail
    refine ⟨by simp, .inl ⟨_, _, rfl, run_takeDeferred hK, ?_⟩⟩
    refine ⟨_, results_tmp rfl _ _ _, ⟨_, ys, rfl, hys, ?_⟩, ?_⟩
    · rw [← Hhgb.out]
      exact ownsRow_putObj (own_base hrow (by omega)) _ hK rfl
    · rw [← Hhgb.out]
      exact hbl.trans (belowK_b (w := w0) hlt.1 W D _ _ hD hK rfl rfl)
  case stop =>
    rintro D c pre W hD hpre h hK
    exact h.elim
theorem collectE_calls {w : World} {Bm b : Nat} {lm : List ((Int × Int) × Unit)} (hBm : Bm < w.heap.size) (hm : w.cell? ⟨Bm, 0, none⟩ = some (.map (some b))) (hmp : MpE w b lm) (hlm : lm.length ≤ 1000000) :
    Calls Tryz.prog 33 #[.func (.func 35) #[] #[.pointer (some ⟨Bm, 0, none⟩)]] w fun e w' =>
      (∃ (r : Value) (ss : List (Int × Int)), e = .returned r ∧ ss.Perm (lm.map (·.1)) ∧ w'.ownsRow w.heap.size 34 2 r ss.length (flat2 ss)) ∧ Below w.heap.size w w' := by
  have hap := appseqE_calls hBm hm hmp hlm
  have Hhap := Lib.hid hap; clear hap; have Hhmp := Lib.hid hmp; clear hmp
  go_enter Tryz.func33, Tryz.ntmps33
  go_wp2_with fail
  refine Hhap.out.mono ?_
  rintro e w1 ⟨⟨r, ss, rfl, hp, hown⟩, hb⟩
  have Hhown := Lib.hid hown; clear hown; have Hhp := Lib.hid hp; clear hp
  go_wp2_with fail
  go_ret
  exact ⟨⟨_, ss, rfl, Hhp.out, Hhown.out⟩, hb⟩
theorem own_addrE {w : World} {base : Nat} {e : TypeId} {size n cap : Nat} {A : Option Addr} {xs : List Value} (h : w.ownsRow base e size (.slice A n cap) n xs) (hn : 0 < n) : ∃ g, A = some ⟨g, 0, none⟩ := by
  obtain ⟨m, rfl⟩ : ∃ m, n = m + 1 := ⟨n - 1, by omega⟩
  obtain ⟨g', c', h8⟩ := ownsRow_succ h
  injection h8 with h8
  exact ⟨_, h8⟩
/-- Whatever their number. -/
theorem sortedge_all {w : World} {base : Nat} {v : Value} {ss : List (Int × Int)} (h : w.ownsRow base 34 2 v ss.length (flat2 ss)) (hl : ss.length ≤ 1000000) :
    Calls Tryz.prog 34 #[v, .func (.func 16) #[] #[]] w fun e w' =>
      e = .returned (.tuple #[]) ∧ (∃ L : List (Int × Int), L.Perm ss ∧ L.length = ss.length ∧ L.Pairwise (fun x y => ¬ ltE y x) ∧ w'.ownsRow base 34 2 v ss.length (flat2 L)) ∧ w.grownBy w' v.ownBlock := by
  obtain ⟨A, cap, rfl, hc⟩ := own_form h
  by_cases h0 : ss.length = 0
  · have h1 := AnyF.slices_SortFunc_none Tryz.sortEdge A cap (.func (.func 16) #[] #[]) w
    change Calls Tryz.prog 34 _ _ _ at h1
    have hss : ss = [] := List.length_eq_zero_iff.1 h0
    subst hss
    refine h1.mono ?_
    rintro e w' ⟨rfl, rfl⟩
    exact ⟨rfl, ⟨[], List.Perm.refl _, rfl, List.Pairwise.nil, h⟩, ⟨rfl, rfl, rfl, Nat.le_refl _, fun _ _ _ => rfl⟩⟩
  · obtain ⟨g, rfl⟩ := own_addrE h (by omega)
    exact sortedge_calls ss g cap base w h (by omega)
end Go.Proofs.YtckkpmjkajkkmaaGreat
