/- Regions that draw their order, the last operation of which (all others go ahead of it) writes what it likes. -/
import Derived.Test.YtdljcemnbbamcaaCanonIn
namespace Go.Canon
open Go
section last
variable {P : Program} {ops : Array Oper} {Q : Exit → Act → World → Prop}
def Tr.isFin : Tr → Bool
  | .fin => true
  | _ => false
/-- Whatever order is picked from here on; a quiet operation leaves the world as it is, every one but m leaves the blocks of U. -/
def wpAnyM (P : Program) (ops : Array Oper) (Q : Exit → Act → World → Prop) (m : Nat) (U : Nat → Prop) (w0 : World) : Nat → Array Bool → Act → World → Prop
  | 0, listed, a, w => Region.ready .any ops listed = [] ∧ Q .normal a w
  | f + 1, listed, a, w => (Region.ready .any ops listed = [] → Q .normal a w) ∧
    ∀ j ∈ Region.ready .any ops listed, wpOp P ops (NQ Q) j (fun a' w' => ((∀ oj, ops[j]? = some oj → isQuiet P oj = true → w' = w) ∧ (j ≠ m → KeepU U w0 w')) ∧ wpAnyM P ops Q m U w0 f (listed.setIfInBounds j true) a' w') a w
theorem wpAny_of_M {m : Nat} {U : Nat → Prop} {w0 : World} : ∀ (f : Nat) (listed : Array Bool) (a : Act) (w : World), wpAnyM P ops Q m U w0 f listed a w → wpAny P .any ops (NQ Q) f listed a w
  | 0, _, _, _, h => h
  | f + 1, _, _, _, h => ⟨h.1, fun i hi => wpOp_mono (fun a' w' h' => wpAny_of_M f _ a' w' h'.2) (h.2 i hi)⟩
theorem firstM {m : Nat} {U : Nat → Prop} {w0 : World} {i : Nat} {oi : Oper} {v : Value} (hi : ops[i]? = some oi) (hsel : ∀ (j : Nat) (o : Oper) cs b, ops[j]? = some o → o.op ≠ .select cs b) :
    ∀ (f : Nat) (listed : Array Bool) (a : Act) (w : World), Closed ops listed → KeepU U w0 w →
      (∀ j oj, ops[j]? = some oj → j ≠ i → listed.getD j true = false → (∀ e ∈ oj.after, Region.binds .any e = true → e.on ≠ i) → oi.apart ops oj = true) →
      (∀ om, ops[m]? = some om → ∃ e ∈ om.after, Region.binds .any e = true ∧ e.on = i) →
      i ∈ Region.ready .any ops listed → YNow P ops oi v a w → (YieldsU P ops U w0 oi v a ∨ LoadOk P ops i listed) →
      wpAnyM P ops Q m U w0 f (listed.setIfInBounds i true) (a.put oi.dst v) w → wpAnyM P ops Q m U w0 (f + 1) listed a w := by
  intro f
  induction f with
  | zero =>
    intro listed a w _ hu _ _ hr hy _ H
    refine ⟨fun h => (by rw [h] at hr; cases hr), fun j hj => ?_⟩
    by_cases hji : j = i
    · subst hji; exact hy.wpOp hi ⟨⟨fun _ _ _ => rfl, fun _ => hu⟩, H⟩
    · have := ready_mono hj hji
      rw [H.1] at this
      cases this
  | succ f ih =>
    intro listed a w hc hu hfree hlast hr hy hyl H
    refine ⟨fun h => (by rw [h] at hr; cases hr), fun j hj => ?_⟩
    by_cases hji : j = i
    · subst hji; exact hy.wpOp hi ⟨⟨fun _ _ _ => rfl, fun _ => hu⟩, H⟩
    · have h1 := H.2 j (ready_mono hj hji)
      obtain ⟨hjun, oj, hoj, hall⟩ := mem_ready.1 hj
      have hiun := getD_false_of (mem_ready.1 hr).1
      have hnot : ∀ e ∈ oj.after, Region.binds .any e = true → e.on ≠ i := fun e he hb heq => by
        have h2 := hall e he hb
        rw [heq, hiun] at h2
        cases h2
      have h2 := wpOp_swap hoj (hfree j oj hoj hji hjun hnot) (fun cs b => hsel i oi cs b hi) (fun cs b => hsel j oj cs b hoj) h1
      have hfree' : ∀ k ok, ops[k]? = some ok → k ≠ i → (listed.setIfInBounds j true).getD k true = false →
          (∀ e ∈ ok.after, Region.binds .any e = true → e.on ≠ i) → oi.apart ops ok = true := fun k ok hk hki hun hno => by
        refine hfree k ok hk hki ?_ hno
        by_cases hjk : j = k
        · subst hjk; exact hjun
        · rw [getD_set_ne true hjk] at hun; exact hun
      refine wpOp_mono (fun a' w' h3 => ?_) h2
      obtain ⟨hview, ⟨hq, hu'⟩, hrest⟩ := h3
      have hjm : j ≠ m := by
        intro e9
        subst e9
        obtain ⟨e, he, hb, h9⟩ := hlast oj hoj
        exact hnot e he hb h9
      replace hu' := hu' hjm
      refine ⟨⟨hq, fun _ => hu'⟩, ?_⟩
      rw [Array.setIfInBounds_comm _ _ (Ne.symm hji)] at hrest
      have hyl' : YieldsU P ops U w0 oi v a' ∨ LoadOk P ops i (listed.setIfInBounds j true) := hyl.imp (fun h => h.view hview) LoadOk.set
      refine ih (listed.setIfInBounds j true) a' w' (hc.set hj) hu' hfree' hlast (ready_mono hr (Ne.symm hji)) ?_ hyl' hrest
      cases hqj : isQuiet P oj with
      | true => rw [hq oj hoj hqj]; exact hy.view hview
      | false =>
        rcases hyl with h | ⟨G, hG, hh⟩
        · exact (h.view hview).now hu'
        · have h4 := hh j oj hoj hqj (without_ready hG hc hiun hj hji)
          rw [getD_false_of hjun] at h4
          cases h4

def okTrM (P : Program) (l : List Oper) (m : Nat) (fl : List Nat) : Tr → Array Bool → Bool → Bool
  | .fin, listed, b => !b && (Region.ready .any l.toArray listed).isEmpty
  | .no, _, b => b
  | .seg ks t, listed, b => !b && okSeg P l fl ks listed && ks.all (decide <| · < l.length) && ssaB l (ks ++ t.path) && okTrM P l m fl t (setAll ks listed) false
  | .alt k t or, listed, b => (b || (Region.ready .any l.toArray listed).all fun j => (k :: or.heads).contains j) && (Region.ready .any l.toArray listed).contains k && decide (k < l.length) && !isQuiet P (l.getD k default) && ssaB l (k :: t.path) && (k != m || t.isFin) &&
      okTrM P l m fl t (listed.setIfInBounds k true) false && okTrM P l m fl or listed true

/-- The tree, walked; the last operation, m, may write what it likes. -/
def wpTrM (P : Program) (l : List Oper) (m : Nat) (fl : List Nat) (U : Nat → Prop) (w0 : World) (Q : Exit → Act → World → Prop) : Tr → Act → World → Prop
  | .fin, a, w => (l.all (binOk a) = true ∧ ∀ k ∈ fl, FlOk U w0 (l.getD k default) a) ∧ Q .normal a w
  | .no, _, _ => True
  | .seg ks t, a, w => wpList P l.toArray (SegQ (wpTrM P l m fl U w0 Q t)) (ks.map fun k => l.getD k default) a w
  | .alt k t or, a, w => wpList P l.toArray (SegQ fun a' w' => (k ≠ m → KeepU U w0 w') ∧ wpTrM P l m fl U w0 Q t a' w') [l.getD k default] a w ∧ wpTrM P l m fl U w0 Q or a w

theorem reachM {l : List Oper} {m : Nat} {fl : List Nat} {U : Nat → Prop} {w0 : World} (φ : Act → Prop) (hQ : ∀ a, (l.all (binOk a) = true ∧ ∀ k ∈ fl, FlOk U w0 (l.getD k default) a) → φ a)
    (hdef : ∀ a d, φ { a with defers := d } → φ a) : ∀ (t : Tr) (listed : Array Bool) (a : Act) (w : World), okTrM P l m fl t listed false = true → (∀ k ∈ t.path, ∀ a v, φ (a.put (l.getD k default).dst v) → φ a) →
    wpTrM P l m fl U w0 Q t a w → φ a
  | .fin, _, a, w, _, _, h => hQ a h.1
  | .no, _, _, _, ho, _, _ => by simp [okTrM] at ho
  | .seg ks t, listed, a, w, ho, hput, h => by
    simp only [okTrM, Bool.and_eq_true] at ho
    refine reach (ops := l.toArray) φ (fun a w hh => reachM φ hQ hdef t _ a w ho.2 (fun k hk => hput k (List.mem_append_right _ hk)) hh) (fun e a w hh => ?_) hdef _ a w (fun o hom => ?_) h
    · cases e <;> first | rfl | exact hh.elim
    · obtain ⟨k, hk, rfl⟩ := List.mem_map.1 hom
      exact hput k (List.mem_append_left _ hk)
  | .alt k t or, listed, a, w, ho, hput, h => by
    simp only [okTrM, Bool.and_eq_true] at ho
    refine reach (ops := l.toArray) φ (fun a w hh => reachM φ hQ hdef t _ a w ho.1.2 (fun k hk => hput k (List.mem_cons_of_mem _ hk)) hh.2) (fun e a w hh => ?_) hdef _ a w (fun o hom => ?_) h.1
    · cases e <;> first | rfl | exact hh.elim
    · have hom : o = l.getD k default := by simpa using hom
      subst hom
      exact hput k List.mem_cons_self

/-- m comes behind all others, and is not quiet. -/
def lastB (P : Program) (l : List Oper) (m : Nat) : Bool := !isQuiet P (l.getD m default) && (List.range l.length).all fun i => i == m || (l.getD m default).after.any fun e => Region.binds .any e && e.on == i
theorem lastB_spec {l : List Oper} {m : Nat} (h : lastB P l m = true) {i : Nat} (hi : i < l.length) (hq : isQuiet P (l.getD i default) = true) : ∀ om, l.toArray[m]? = some om → ∃ e ∈ om.after, Region.binds .any e = true ∧ e.on = i := by
  intro om hom
  simp only [lastB, Bool.and_eq_true, Bool.not_eq_true'] at h
  have h1 := List.all_eq_true.1 h.2 i (List.mem_range.2 hi)
  have hne : i ≠ m := by
    intro e
    rw [e, h.1] at hq
    cases hq
  have hm : om = l.getD m default := by
    have hom : l[m]? = some om := by simpa using hom
    rw [List.getD_eq_getElem?_getD, hom]
    rfl
  subst hm
  have hbe : (i == m) = false := by simpa using hne
  rw [hbe, Bool.false_or, Array.any_eq_true] at h1
  obtain ⟨j, hj, he⟩ := h1
  simp only [Bool.and_eq_true, beq_iff_eq] at he
  exact ⟨_, Array.getElem_mem hj, he.1, he.2⟩

theorem tree_anyM {l : List Oper} {m : Nat} {fl : List Nat} {U : Nat → Prop} {w0 : World} (hs : Region.noSelect l.toArray = true) (hL : lastB P l m = true) : ∀ (t : Tr),
    (∀ (f : Nat) (listed : Array Bool) (a : Act) (w : World), t.depth ≤ f → Closed l.toArray listed → (t.isFin = true ∨ KeepU U w0 w) → okTrM P l m fl t listed false = true → wpTrM P l m fl U w0 Q t a w → wpAnyM P l.toArray Q m U w0 f listed a w) ∧
    (∀ (f : Nat) (listed : Array Bool) (a : Act) (w : World), t.depth ≤ f + 1 → Closed l.toArray listed → KeepU U w0 w → okTrM P l m fl t listed true = true → wpTrM P l m fl U w0 Q t a w →
      ∀ j ∈ t.heads, wpOp P l.toArray (NQ Q) j (fun a' w' => ((∀ oj, l.toArray[j]? = some oj → isQuiet P oj = true → w' = w) ∧ (j ≠ m → KeepU U w0 w')) ∧ wpAnyM P l.toArray Q m U w0 f (listed.setIfInBounds j true) a' w') a w)
  | .fin => by
    refine ⟨fun f listed a w _ _ _ ho h => ?_, fun f listed a w _ _ _ _ _ j hj => by cases hj⟩
    have hr : Region.ready .any l.toArray listed = [] := by simpa [okTrM] using ho
    cases f with
    | zero => exact ⟨hr, h.2⟩
    | succ f => exact ⟨fun _ => h.2, fun j hj => by rw [hr] at hj; cases hj⟩
  | .no => ⟨fun f listed a w _ _ _ ho _ => by simp [okTrM] at ho, fun f listed a w _ _ _ _ _ j hj => by cases hj⟩
  | .seg ks t => by
    refine ⟨?_, fun f listed a w _ _ _ _ _ j hj => by cases hj⟩
    have ih := (tree_anyM (fl := fl) (U := U) (w0 := w0) hs hL t).1
    intro f listed a w hd hc hu ho h
    replace hu : KeepU U w0 w := by
      rcases hu with hu | hu
      · cases hu
      · exact hu
    simp only [okTrM, Bool.and_eq_true, Bool.not_false, true_and] at ho
    obtain ⟨⟨⟨ho, hlt⟩, hS⟩, hot⟩ := ho
    simp only [Tr.depth] at hd
    change wpList P l.toArray (SegQ (wpTrM P l m fl U w0 Q t)) (ks.map fun k => l.getD k default) a w at h
    induction ks generalizing f listed a w with
    | nil => exact ih f listed a w (by simpa using hd) hc (.inr hu) hot h
    | cons k ks ihk =>
      simp only [okSeg, Bool.and_eq_true] at ho
      simp only [List.all_cons, Bool.and_eq_true, decide_eq_true_eq] at hlt
      simp only [List.cons_append, ssaB, Bool.and_eq_true] at hS
      have hget : l.toArray[k]? = some (l.getD k default) := by simp [List.getD, hlt.1]
      obtain ⟨hr', o, hoo, hf, hq, H⟩ := step_quiet (Q := Q) (a := a) hu ho.1
      have hoe : o = l.getD k default := Option.some.inj (hoo.symm.trans hget)
      have hat := at_op (fl := fl) (U := U) (w0 := w0) (a := a) hlt.1 hS.1 (fun φ hφ hdef hput => by
        refine reach (P := P) (ops := l.toArray) φ (fun a w hh => reachM (P := P) (Q := Q) φ hφ hdef t _ a w hot (fun k hk => hput k (by simp [hk])) hh) (fun e a w hh => ?_) hdef _ a w (fun o hom => ?_) h
        · cases e <;> first | rfl | exact hh.elim
        · obtain ⟨k', hk', rfl⟩ := List.mem_map.1 hom
          exact hput k' (by rcases List.mem_cons.1 hk' with h | h <;> simp [h]))
      rw [← hoe] at hat
      obtain ⟨v, hy, hyl, hrest⟩ := H _ hat.1 hat.2 (wpOp_of_list hlt.1 h)
      cases f with
      | zero => simp at hd
      | succ f => exact firstM (m := m) hoo (Region.noSelect_spec hs) f listed a w hc hu (Region.free_spec hoo hf) (lastB_spec hL hlt.1 (by rw [← hoe]; exact hq)) hr' hy hyl (ihk f _ _ _ (by simp only [List.length_cons] at hd; omega) (hc.set hr') hu hot hS.2 ho.2 hlt.2 hrest)
  | .alt k t or => by
    have ih := (tree_anyM (fl := fl) (U := U) (w0 := w0) hs hL t).1
    have iho := (tree_anyM (fl := fl) (U := U) (w0 := w0) hs hL or).2
    have alts : ∀ (f : Nat) (listed : Array Bool) (a : Act) (w : World), (Tr.alt k t or).depth ≤ f + 1 → Closed l.toArray listed → KeepU U w0 w → okTrM P l m fl (.alt k t or) listed true = true → wpTrM P l m fl U w0 Q (.alt k t or) a w →
      ∀ j ∈ (Tr.alt k t or).heads, wpOp P l.toArray (NQ Q) j (fun a' w' => ((∀ oj, l.toArray[j]? = some oj → isQuiet P oj = true → w' = w) ∧ (j ≠ m → KeepU U w0 w')) ∧ wpAnyM P l.toArray Q m U w0 f (listed.setIfInBounds j true) a' w') a w := by
      intro f listed a w hd hc hu ho h j hj
      simp only [okTrM, Bool.and_eq_true, Bool.true_or, true_and, Bool.not_eq_true', decide_eq_true_eq] at ho
      obtain ⟨⟨⟨⟨⟨⟨hr, hlt⟩, hq⟩, hS⟩, hfin⟩, hot⟩, hoo⟩ := ho
      simp only [Tr.depth] at hd
      rcases List.mem_cons.1 hj with rfl | hj
      · have hget : l.toArray[j]? = some (l.getD j default) := by simp [List.getD, hlt]
        have hr' : j ∈ Region.ready .any l.toArray listed := by simpa using hr
        refine wpOp_mono (fun a' w' h' => ?_) (wpOp_of_list (ks := []) hlt h.1)
        obtain ⟨hu', ht⟩ := h'
        have hu2 : t.isFin = true ∨ KeepU U w0 w' := by
          by_cases hjm : j = m
          · simp only [hjm, bne_self_eq_false, Bool.false_or] at hfin
            exact .inl hfin
          · exact .inr (hu' hjm)
        refine ⟨⟨fun oj hoj hqj => ?_, hu'⟩, ih f _ a' w' (by omega) (hc.set hr') hu2 hot ht⟩
        have : oj = l.getD j default := Option.some.inj (hoj.symm.trans hget)
        rw [this, hq] at hqj
        cases hqj
      · exact iho f listed a w (by omega) hc hu hoo h.2 j hj
    refine ⟨fun f listed a w hd hc hu ho h => ?_, alts⟩
    have ho2 := ho
    simp only [okTrM, Bool.and_eq_true, Bool.false_or] at ho
    replace hu : KeepU U w0 w := by
      rcases hu with hu | hu
      · cases hu
      · exact hu
    obtain ⟨⟨⟨⟨⟨⟨⟨hready, hk1⟩, hlt1⟩, hq1⟩, hS1⟩, hfin1⟩, hot1⟩, hor1⟩ := ho
    have hk : k ∈ Region.ready .any l.toArray listed := by simpa using hk1
    have ho3 : okTrM P l m fl (.alt k t or) listed true = true := by
      simp only [okTrM, Bool.and_eq_true, Bool.true_or, true_and]
      exact ⟨⟨⟨⟨⟨⟨hk1, hlt1⟩, hq1⟩, hS1⟩, hfin1⟩, hot1⟩, hor1⟩
    cases f with
    | zero => simp only [Tr.depth] at hd; omega
    | succ f =>
      refine ⟨fun h0 => (by rw [h0] at hk; cases hk), fun j hj => ?_⟩
      have hj2 := List.all_eq_true.1 hready j hj
      exact alts f listed a w hd hc hu ho3 h j (by simpa [Tr.heads] using hj2)

def treeM (P : Program) (l : List Oper) (m : Nat) (fl : List Nat) (t : Tr) : Bool := lastB P l m && Region.noSelect l.toArray && okTrM P l m fl t (Array.replicate l.length false) false && decide (t.depth ≤ l.length)
/-- A region that draws its order, walked by a tree of orders; m: the last operation. 'fl': the loads that float over what changes the world (their blocks are of U, which nobody but m writes). -/
theorem any_last {l : List Oper} {a : Act} {w : World} (m : Nat) (fl : List Nat) (U : Nat → Prop) (t : Tr) (hc : treeM P l m fl t = true)
    (h : wpTrM P l m fl U w Q t a w) : wpAny P .any l.toArray (NQ Q) l.toArray.size (Array.replicate l.toArray.size false) a w := by
  simp only [treeM, Bool.and_eq_true, decide_eq_true_eq] at hc
  obtain ⟨⟨⟨hL, hs⟩, hB⟩, hd⟩ := hc
  have h1 := (tree_anyM (P := P) (Q := Q) (m := m) (fl := fl) (U := U) (w0 := w) hs hL t).1 l.length (Array.replicate l.length false) a w hd (replicate_closed _) (.inr fun _ _ => rfl) hB h
  exact wpAny_of_M _ _ _ _ (by simpa using h1)
theorem wp_region_last {id : Nat} {l : List Oper} {a : Act} {w : World} (m : Nat) (fl : List Nat) (U : Nat → Prop) (t : Tr) (hm : P.follows .mixedOrders = true) (hc : treeM P l m fl t = true)
    (h : wpTrM P l m fl U w.drew Q t a w.drew) : (Code.region id l.toArray true).wp P Q a w := by
  refine Code.wp_mono (Q := NQ Q) (fun e a w h => ?_) (wp_region_any hm (any_last m fl U t hc h))
  cases e <;> first | exact h | exact h.elim
theorem Wide.region_last {F : Fence} (h9 : Wide F) {n id : Nat} {l : List Oper} {a : Act} {w : World} (m : Nat) (fl : List Nat) (U : Nat → Prop) (t : Tr) (hl : noDefers l = true) (hm : P.follows .mixedOrders = true) (hc : treeM P l m fl t = true)
    (h : wpTrM P l m fl U w.drew Q t a w.drew) : (Code.region id l.toArray true).wpIn F n P Q a w :=
  h9.region_any hl hm (any_last m fl U t hc h)

section
variable {l : List Oper} {m : Nat} {fl : List Nat} {U : Nat → Prop} {w0 : World} {a : Act} {w : World}
theorem trm_seg {ks : List Nat} {t : Tr} (h : wpList P l.toArray (SegQ (wpTrM P l m fl U w0 Q t)) (ks.map fun k => l.getD k default) a w) : wpTrM P l m fl U w0 Q (.seg ks t) a w := h
theorem trm_to {K : Act → World → Prop} (h : K a w) : SegQ K .normal a w := h
theorem trm_alt {k : Nat} {t or : Tr} (h : wpList P l.toArray (SegQ fun a' w' => (k ≠ m → KeepU U w0 w') ∧ wpTrM P l m fl U w0 Q t a' w') [l.getD k default] a w) (h2 : wpTrM P l m fl U w0 Q or a w) : wpTrM P l m fl U w0 Q (.alt k t or) a w := ⟨h, h2⟩
theorem trm_one {k : Nat} {t : Tr} (h : wpList P l.toArray (SegQ fun a' w' => (k ≠ m → KeepU U w0 w') ∧ wpTrM P l m fl U w0 Q t a' w') [l.getD k default] a w) : wpTrM P l m fl U w0 Q (.alt k t .no) a w := ⟨h, trivial⟩
theorem trm_no : wpTrM P l m fl U w0 Q .no a w := trivial
theorem trm_end {k : Nat} {t : Tr} (h1 : KeepU U w0 w) (h2 : wpTrM P l m fl U w0 Q t a w) : SegQ (fun a' w' => (k ≠ m → KeepU U w0 w') ∧ wpTrM P l m fl U w0 Q t a' w') .normal a w := ⟨fun _ => h1, h2⟩
theorem trm_last {t : Tr} (h2 : wpTrM P l m fl U w0 Q t a w) : SegQ (fun a' w' => (m ≠ m → KeepU U w0 w') ∧ wpTrM P l m fl U w0 Q t a' w') .normal a w := ⟨fun h => absurd rfl h, h2⟩
theorem trm_fin (h1 : l.all (binOk a) = true) (h2 : ∀ k ∈ fl, FlOk U w0 (l.getD k default) a) (hQ : Q .normal a w) : wpTrM P l m fl U w0 Q .fin a w := ⟨⟨h1, h2⟩, hQ⟩
end
end last
end Go.Canon
