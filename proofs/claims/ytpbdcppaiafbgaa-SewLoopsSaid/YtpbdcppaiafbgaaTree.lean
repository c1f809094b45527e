/- Regions that draw their order, where more than once several operations that change the world may come up: a tree of orders. Regions in a round of a loop over a function: walked as everywhere. Regions that draw their order, the last operation of which (all others go ahead of it) writes what it likes. -/
import Derived.Test.YtpbdcppaiafbgaaCanon
import Derived.RangeFuncCalls
import Derived.TacticsIn
namespace Go.Canon
open Go
section tree
variable {P : Program} {Q : Exit → Act → World → Prop}

/-- A tree of orders. 'alt k t or': k, that changes the world, may come up, then t; 'or': what else may come up. -/
inductive Tr where
  | fin
  | seg (ks : List Nat) (t : Tr)
  | alt (k : Nat) (t : Tr) (or : Tr)
  | no

/-- The first way through. -/
def Tr.path : Tr → List Nat
  | .fin => []
  | .seg ks t => ks ++ t.path
  | .alt k t _ => k :: t.path
  | .no => []
def Tr.depth : Tr → Nat
  | .fin => 0
  | .seg ks t => ks.length + t.depth
  | .alt _ t or => max (t.depth + 1) or.depth
  | .no => 0
def Tr.heads : Tr → List Nat
  | .alt k _ or => k :: or.heads
  | _ => []
def Tr.isAlt : Tr → Bool
  | .alt .. => true
  | _ => false
def Tr.isNo : Tr → Bool
  | .no => true
  | _ => false

/-- What is asked of a tree: each quiet operation may come first; each fork lists all that may come up; every way ends; nobody writes later what a '+', a '==', a load looks at. -/
def okSeg (P : Program) (l : List Oper) (fl : List Nat) : List Nat → Array Bool → Bool
  | [], _ => true
  | k :: ks, listed => stepB P l.toArray fl k listed && okSeg P l fl ks (listed.setIfInBounds k true)
def setAll : List Nat → Array Bool → Array Bool
  | [], listed => listed
  | k :: ks, listed => setAll ks (listed.setIfInBounds k true)
def okTr (P : Program) (l : List Oper) (fl : List Nat) : Tr → Array Bool → Bool → Bool
  | .fin, listed, b => !b && (Region.ready .any l.toArray listed).isEmpty
  | .no, _, b => b
  | .seg ks t, listed, b => !b && okSeg P l fl ks listed && ks.all (decide <| · < l.length) && ssaB l (ks ++ t.path) && okTr P l fl t (setAll ks listed) false
  | .alt k t or, listed, b => (b || (Region.ready .any l.toArray listed).all fun j => (k :: or.heads).contains j) && (Region.ready .any l.toArray listed).contains k && decide (k < l.length) && !isQuiet P (l.getD k default) && ssaB l (k :: t.path) &&
      okTr P l fl t (listed.setIfInBounds k true) false && okTr P l fl or listed true

/-- The tree, walked. -/
def wpTr (P : Program) (l : List Oper) (fl : List Nat) (U : Nat → Prop) (w0 : World) (Q : Exit → Act → World → Prop) : Tr → Act → World → Prop
  | .fin, a, w => (l.all (binOk a) = true ∧ ∀ k ∈ fl, FlOk U w0 (l.getD k default) a) ∧ Q .normal a w
  | .no, _, _ => True
  | .seg ks t, a, w => wpList P l.toArray (SegQ (wpTr P l fl U w0 Q t)) (ks.map fun k => l.getD k default) a w
  | .alt k t or, a, w => wpList P l.toArray (SegQ fun a' w' => KeepU U w0 w' ∧ wpTr P l fl U w0 Q t a' w') [l.getD k default] a w ∧ wpTr P l fl U w0 Q or a w

theorem reachT {l : List Oper} {fl : List Nat} {U : Nat → Prop} {w0 : World} (φ : Act → Prop) (hQ : ∀ a, (l.all (binOk a) = true ∧ ∀ k ∈ fl, FlOk U w0 (l.getD k default) a) → φ a)
    (hdef : ∀ a d, φ { a with defers := d } → φ a) : ∀ (t : Tr) (listed : Array Bool) (a : Act) (w : World), okTr P l fl t listed false = true → (∀ k ∈ t.path, ∀ a v, φ (a.put (l.getD k default).dst v) → φ a) →
    wpTr P l fl U w0 Q t a w → φ a
  | .fin, _, a, w, _, _, h => hQ a h.1
  | .no, _, _, _, ho, _, _ => by simp [okTr] at ho
  | .seg ks t, listed, a, w, ho, hput, h => by
    simp only [okTr, Bool.and_eq_true] at ho
    refine reach (ops := l.toArray) φ (fun a w hh => reachT φ hQ hdef t _ a w ho.2 (fun k hk => hput k (List.mem_append_right _ hk)) hh) (fun e a w hh => ?_) hdef _ a w (fun o hom => ?_) h
    · cases e <;> first | rfl | exact hh.elim
    · obtain ⟨k, hk, rfl⟩ := List.mem_map.1 hom
      exact hput k (List.mem_append_left _ hk)
  | .alt k t or, listed, a, w, ho, hput, h => by
    simp only [okTr, Bool.and_eq_true] at ho
    refine reach (ops := l.toArray) φ (fun a w hh => reachT φ hQ hdef t _ a w ho.1.2 (fun k hk => hput k (List.mem_cons_of_mem _ hk)) hh.2) (fun e a w hh => ?_) hdef _ a w (fun o hom => ?_) h.1
    · cases e <;> first | rfl | exact hh.elim
    · have hom : o = l.getD k default := by simpa using hom
      subst hom
      exact hput k List.mem_cons_self

theorem wpOp_of_list {l : List Oper} {k : Nat} {ks : List Nat} {R : Act → World → Prop} {a : Act} {w : World} (hk : k < l.length) (h : wpList P l.toArray (SegQ R) ((k :: ks).map fun k => l.getD k default) a w) :
    wpOp P l.toArray (NQ Q) k (fun a' w' => wpList P l.toArray (SegQ R) (ks.map fun k => l.getD k default) a' w') a w := by
  have hget : l.toArray[k]? = some (l.getD k default) := by simp [List.getD, hk]
  unfold wpOp
  simp only [hget]
  simp only [List.map_cons] at h
  unfold wpList at h
  by_cases hw : Region.wanted (l.getD k default) (yielded l.toArray a.tmps) = true
  · rw [if_pos hw] at h ⊢
    rcases h with h | ⟨_, a', w', h⟩
    case inr => exact h.elim
    refine .inl ?_
    unfold Oper.wp at h ⊢
    generalize (execOp a.eval (l.getD k default)).run P w = r at *
    cases r with
    | ok n w' =>
      cases n <;> simp only [Oper.upon] at h ⊢ <;> first
        | exact h
        | (refine Calls.mono h fun e w'' he => ?_
           cases e with
           | returned u => exact he
           | panicked c => exact he
           | outgrown => obtain ⟨a', w', h⟩ := he; exact h.elim)
    | halt x w' => cases x <;> simp only [Oper.upon] at h ⊢ <;> exact h
  · rw [if_neg hw] at h ⊢
    exact h

/-- What is known at k of its operands, from the end of the way. -/
theorem at_op {l : List Oper} {fl : List Nat} {U : Nat → Prop} {w0 : World} {k : Nat} {rest : List Nat} {a : Act} (hk : k < l.length) (hS : ((k :: rest).all (fun k' => match (l.getD k' default).dst with | some d => !(opTmps (l.getD k default)).contains d | none => true)) = true)
    (H : ∀ φ : Act → Prop, (∀ a, (l.all (binOk a) = true ∧ ∀ k ∈ fl, FlOk U w0 (l.getD k default) a) → φ a) → (∀ a d, φ { a with defers := d } → φ a) → (∀ k' ∈ k :: rest, ∀ a v, φ (a.put (l.getD k' default).dst v) → φ a) → φ a) :
    binOk a (l.getD k default) = true ∧ (fl.contains k = true → FlOk U w0 (l.getD k default) a) := by
  have hmem : l.getD k default ∈ l := by
    have : l.getD k default = l[k] := by simp [List.getD, hk]
    rw [this]; exact List.getElem_mem hk
  have hdst : ∀ k' ∈ k :: rest, ∀ d, (l.getD k' default).dst = some d → d ∉ opTmps (l.getD k default) := fun k' hk' d hd => by
    have h1 := List.all_eq_true.1 hS k' hk'
    rw [hd] at h1
    simpa using h1
  refine ⟨?_, fun hfl => ?_⟩
  · refine H (fun a => binOk a (l.getD k default) = true) (fun a hc => List.all_eq_true.1 hc.1 _ hmem) (fun a d h => h) (fun k' hk' a v hv => ?_)
    rw [binOk_put (hdst k' hk')] at hv
    exact hv
  · exact H (fun a => FlOk U w0 (l.getD k default) a) (fun a hc => hc.2 k (by simpa using hfl)) (fun a d h => by
      unfold FlOk at h ⊢
      exact h) (fun k' hk' a v hv => flOk_put (hdst k' hk') hv)

theorem tree_any {l : List Oper} {fl : List Nat} {U : Nat → Prop} {w0 : World} (hs : Region.noSelect l.toArray = true) : ∀ (t : Tr),
    (∀ (f : Nat) (listed : Array Bool) (a : Act) (w : World), t.depth ≤ f → Closed l.toArray listed → KeepU U w0 w → okTr P l fl t listed false = true → wpTr P l fl U w0 Q t a w → wpAnyB P l.toArray Q U w0 f listed a w) ∧
    (∀ (f : Nat) (listed : Array Bool) (a : Act) (w : World), t.depth ≤ f + 1 → Closed l.toArray listed → KeepU U w0 w → okTr P l fl t listed true = true → wpTr P l fl U w0 Q t a w →
      ∀ j ∈ t.heads, wpOp P l.toArray (NQ Q) j (fun a' w' => ((∀ oj, l.toArray[j]? = some oj → isQuiet P oj = true → w' = w) ∧ KeepU U w0 w') ∧ wpAnyB P l.toArray Q U w0 f (listed.setIfInBounds j true) a' w') a w)
  | .fin => by
    refine ⟨fun f listed a w _ _ _ ho h => ?_, fun f listed a w _ _ _ _ _ j hj => by cases hj⟩
    have hr : Region.ready .any l.toArray listed = [] := by simpa [okTr] using ho
    cases f with
    | zero => exact ⟨hr, h.2⟩
    | succ f => exact ⟨fun _ => h.2, fun j hj => by rw [hr] at hj; cases hj⟩
  | .no => ⟨fun f listed a w _ _ _ ho _ => by simp [okTr] at ho, fun f listed a w _ _ _ _ _ j hj => by cases hj⟩
  | .seg ks t => by
    refine ⟨?_, fun f listed a w _ _ _ _ _ j hj => by cases hj⟩
    have ih := (tree_any (fl := fl) (U := U) (w0 := w0) hs t).1
    intro f listed a w hd hc hu ho h
    simp only [okTr, Bool.and_eq_true, Bool.not_false, true_and] at ho
    obtain ⟨⟨⟨ho, hlt⟩, hS⟩, hot⟩ := ho
    simp only [Tr.depth] at hd
    change wpList P l.toArray (SegQ (wpTr P l fl U w0 Q t)) (ks.map fun k => l.getD k default) a w at h
    induction ks generalizing f listed a w with
    | nil => exact ih f listed a w (by simpa using hd) hc hu hot h
    | cons k ks ihk =>
      simp only [okSeg, Bool.and_eq_true] at ho
      simp only [List.all_cons, Bool.and_eq_true, decide_eq_true_eq] at hlt
      simp only [List.cons_append, ssaB, Bool.and_eq_true] at hS
      have hget : l.toArray[k]? = some (l.getD k default) := by simp [List.getD, hlt.1]
      obtain ⟨hr', o, hoo, hf, hq, H⟩ := step_quiet (Q := Q) (a := a) hu ho.1
      have hoe : o = l.getD k default := Option.some.inj (hoo.symm.trans hget)
      have hat := at_op (fl := fl) (U := U) (w0 := w0) (a := a) hlt.1 hS.1 (fun φ hφ hdef hput => by
        refine reach (P := P) (ops := l.toArray) φ (fun a w hh => reachT (P := P) (Q := Q) φ hφ hdef t _ a w hot (fun k hk => hput k (by simp [hk])) hh) (fun e a w hh => ?_) hdef _ a w (fun o hom => ?_) h
        · cases e <;> first | rfl | exact hh.elim
        · obtain ⟨k', hk', rfl⟩ := List.mem_map.1 hom
          exact hput k' (by rcases List.mem_cons.1 hk' with h | h <;> simp [h]))
      rw [← hoe] at hat
      obtain ⟨v, hy, hyl, hrest⟩ := H _ hat.1 hat.2 (wpOp_of_list hlt.1 h)
      cases f with
      | zero => simp at hd
      | succ f => exact first hoo (Region.noSelect_spec hs) f listed a w hc hu (Region.free_spec hoo hf) hr' hy hyl (ihk f _ _ _ (by simp only [List.length_cons] at hd; omega) (hc.set hr') hu hot hS.2 ho.2 hlt.2 hrest)
  | .alt k t or => by
    have ih := (tree_any (fl := fl) (U := U) (w0 := w0) hs t).1
    have iho := (tree_any (fl := fl) (U := U) (w0 := w0) hs or).2
    have alts : ∀ (f : Nat) (listed : Array Bool) (a : Act) (w : World), (Tr.alt k t or).depth ≤ f + 1 → Closed l.toArray listed → KeepU U w0 w → okTr P l fl (.alt k t or) listed true = true → wpTr P l fl U w0 Q (.alt k t or) a w →
      ∀ j ∈ (Tr.alt k t or).heads, wpOp P l.toArray (NQ Q) j (fun a' w' => ((∀ oj, l.toArray[j]? = some oj → isQuiet P oj = true → w' = w) ∧ KeepU U w0 w') ∧ wpAnyB P l.toArray Q U w0 f (listed.setIfInBounds j true) a' w') a w := by
      intro f listed a w hd hc hu ho h j hj
      simp only [okTr, Bool.and_eq_true, Bool.true_or, true_and, Bool.not_eq_true', decide_eq_true_eq] at ho
      obtain ⟨⟨⟨⟨⟨hr, hlt⟩, hq⟩, hS⟩, hot⟩, hoo⟩ := ho
      simp only [Tr.depth] at hd
      rcases List.mem_cons.1 hj with rfl | hj
      · have hget : l.toArray[j]? = some (l.getD j default) := by simp [List.getD, hlt]
        have hr' : j ∈ Region.ready .any l.toArray listed := by simpa using hr
        refine wpOp_mono (fun a' w' h' => ?_) (wpOp_of_list (ks := []) hlt h.1)
        obtain ⟨hu', ht⟩ := h'
        refine ⟨⟨fun oj hoj hqj => ?_, hu'⟩, ih f _ a' w' (by omega) (hc.set hr') hu' hot ht⟩
        have : oj = l.getD j default := Option.some.inj (hoj.symm.trans hget)
        rw [this, hq] at hqj
        cases hqj
      · exact iho f listed a w (by omega) hc hu hoo h.2 j hj
    refine ⟨fun f listed a w hd hc hu ho h => ?_, alts⟩
    have ho2 := ho
    simp only [okTr, Bool.and_eq_true, Bool.false_or] at ho
    have hready := ho.1.1.1.1.1.1
    have hk : k ∈ Region.ready .any l.toArray listed := by simpa using ho.1.1.1.1.1.2
    have ho3 : okTr P l fl (.alt k t or) listed true = true := by
      simp only [okTr, Bool.and_eq_true, Bool.true_or, true_and]
      exact ⟨⟨⟨⟨⟨ho.1.1.1.1.1.2, ho.1.1.1.1.2⟩, ho.1.1.1.2⟩, ho.1.1.2⟩, ho.1.2⟩, ho.2⟩
    cases f with
    | zero => simp only [Tr.depth] at hd; omega
    | succ f =>
      refine ⟨fun h0 => (by rw [h0] at hk; cases hk), fun j hj => ?_⟩
      have hj2 := List.all_eq_true.1 hready j hj
      exact alts f listed a w hd hc hu ho3 h j (by simpa [Tr.heads] using hj2)

def treeB (P : Program) (l : List Oper) (fl : List Nat) (t : Tr) : Bool := Region.noSelect l.toArray && okTr P l fl t (Array.replicate l.length false) false && decide (t.depth ≤ l.length)
/-- A region that draws its order, walked by a tree of orders. 'fl': the loads that float over what changes the world (their blocks are of U, which nobody writes). -/
theorem wp_region_tree {id : Nat} {l : List Oper} {a : Act} {w : World} (fl : List Nat) (U : Nat → Prop) (t : Tr) (hm : P.follows .mixedOrders = true) (hc : treeB P l fl t = true)
    (h : wpTr P l fl U w.drew Q t a w.drew) : (Code.region id l.toArray true).wp P Q a w := by
  simp only [treeB, Bool.and_eq_true, decide_eq_true_eq] at hc
  obtain ⟨⟨hs, hB⟩, hd⟩ := hc
  have h1 := (tree_any (P := P) (Q := Q) (fl := fl) (U := U) (w0 := w.drew) hs t).1 l.length (Array.replicate l.length false) a w.drew hd (replicate_closed _) (fun _ _ => rfl) hB h
  refine Code.wp_mono (Q := NQ Q) (fun e a w h => ?_) (wp_region_any hm (wpAny_of_B _ _ _ _ (by simpa using h1)))
  cases e <;> first | exact h | exact h.elim

section
variable {l : List Oper} {fl : List Nat} {U : Nat → Prop} {w0 : World} {a : Act} {w : World}
theorem tr_seg {ks : List Nat} {t : Tr} (h : wpList P l.toArray (SegQ (wpTr P l fl U w0 Q t)) (ks.map fun k => l.getD k default) a w) : wpTr P l fl U w0 Q (.seg ks t) a w := h
theorem tr_to {K : Act → World → Prop} (h : K a w) : SegQ K .normal a w := h
theorem tr_alt {k : Nat} {t or : Tr} (h : wpList P l.toArray (SegQ fun a' w' => KeepU U w0 w' ∧ wpTr P l fl U w0 Q t a' w') [l.getD k default] a w) (h2 : wpTr P l fl U w0 Q or a w) : wpTr P l fl U w0 Q (.alt k t or) a w := ⟨h, h2⟩
theorem tr_one {k : Nat} {t : Tr} (h : wpList P l.toArray (SegQ fun a' w' => KeepU U w0 w' ∧ wpTr P l fl U w0 Q t a' w') [l.getD k default] a w) : wpTr P l fl U w0 Q (.alt k t .no) a w := ⟨h, trivial⟩
theorem tr_no : wpTr P l fl U w0 Q .no a w := trivial
theorem tr_end {t : Tr} (h1 : KeepU U w0 w) (h2 : wpTr P l fl U w0 Q t a w) : SegQ (fun a' w' => KeepU U w0 w' ∧ wpTr P l fl U w0 Q t a' w') .normal a w := ⟨h1, h2⟩
theorem tr_fin (h1 : l.all (binOk a) = true) (h2 : ∀ k ∈ fl, FlOk U w0 (l.getD k default) a) (hQ : Q .normal a w) : wpTr P l fl U w0 Q .fin a w := ⟨⟨h1, h2⟩, hQ⟩
end
end tree
end Go.Canon

namespace Go.Canon
open Go
section inround
variable {P : Program} {Q : Exit → Act → World → Prop}

def noDefers (l : List Oper) : Bool := l.all fun o => match o.op with | .defer _ => false | _ => true
theorem noDefers_at {l : List Oper} (h : noDefers l = true) {i : Nat} {o : Oper} (hi : l.toArray[i]? = some o) : ∀ c, o.op ≠ .defer c := by
  intro c hc
  have hm : o ∈ l := List.mem_of_getElem? (by simpa using hi)
  have := List.all_eq_true.1 h o hm
  rw [hc] at this
  cases this
/-- The fence that lets all by, in a round or in none. -/
def Wide (F : Fence) : Prop := F = Fence.wide ∨ ∃ l, F = Fence.wide.inRound l
theorem wide_wide : Wide Fence.wide := .inl rfl
theorem wide_round (l : Nat) : Wide (Fence.wide.inRound l) := .inr ⟨l, rfl⟩
theorem Wide.fn {F : Fence} (h : Wide F) (f : FuncId) : F.fn f := by rcases h with rfl | ⟨l, rfl⟩ <;> trivial
theorem Wide.depth {F : Fence} (h : Wide F) : F.depth = none := by rcases h with rfl | ⟨l, rfl⟩ <;> rfl
theorem Wide.calls {F : Fence} (h : Wide F) {n : Nat} {f : FuncId} {args : Array Value} {w : World} {R : Ending → World → Prop} (hc : Calls P f args w R) : CallsIn F n P f args w R := by
  rcases h with rfl | ⟨l, rfl⟩
  · exact callsIn_wide.2 hc
  · exact CallsIn.inRound l (callsIn_wide.2 hc)
theorem Wide.fenced {F : Fence} (h : Wide F) : Machine.fenced P F = Machine.fenced P Fence.wide := by
  rcases h with rfl | ⟨l, rfl⟩
  · rfl
  · exact fenced_inRound P Fence.wide l
theorem Wide.rows {F : Fence} (h : Wide F) {n : Nat} {row : String} {args : Array Value} {w : World} {R : Value → World → Prop} (hc : Rows P row args w R) : RowsIn F n P row args w R := by
  intro c cs _
  obtain ⟨v, w', hr, hs⟩ := hc c cs
  exact ⟨v, w', hr, by rw [h.fenced]; exact stepsIn_wide.2 hs⟩
theorem Wide.sem {F : Fence} (h : Wide F) {o : Oper} (ho : ∀ c, o.op ≠ .defer c) (ρ : Operand → Value) : o.semAt F.round ρ = execOp ρ o := by
  rcases h with rfl | ⟨l, rfl⟩
  · rfl
  · exact Oper.semAt_some l ρ o ho
theorem Wide.oper {F : Fence} (h : Wide F) {n : Nat} {o : Oper} (ho : ∀ c, o.op ≠ .defer c) {a : Act} {w : World} {K : Act → World → Prop} (hw : o.wp P a w K Q) : o.wpIn F n P a w K Q := by
  refine ⟨fun f _ => h.fn f, ?_⟩
  rw [h.sem ho]
  unfold Oper.wp at hw
  generalize (execOp a.eval o).run P w = r at *
  have hd : F.depth.isSome = true → 1 ≤ n := fun h9 => by rw [h.depth] at h9; cases h9
  cases r with
  | ok x w' =>
    cases x <;> simp only [Oper.upon, Oper.uponIn] at hw ⊢ <;> first
      | exact hw
      | exact hw.elim
      | exact ⟨hd, h.calls hw⟩
      | exact ⟨hd, h.rows hw⟩
  | halt x w' => cases x <;> simp only [Oper.upon, Oper.uponIn] at hw ⊢ <;> exact hw
theorem Wide.ops {F : Fence} (h : Wide F) {n : Nat} {l : List Oper} (hl : noDefers l = true) (hq : ¬ LetsOut Q) : ∀ (ord : List Nat) (a : Act) (w : World), wpOps P l.toArray Q ord a w → wpOpsIn F n P l.toArray Q ord a w
  | [], _, _, hw => hw
  | i :: rest, a, w, hw => by
    unfold wpOpsIn
    unfold wpOps at hw
    cases hi : l.toArray[i]? with
    | none =>
      simp only [hi] at hw ⊢
      exact h.ops hl hq rest a w hw
    | some o =>
      simp only [hi] at hw ⊢
      by_cases hwa : Region.wanted o (yielded l.toArray a.tmps) = true
      · rw [if_pos hwa] at hw ⊢
        rcases hw with hw | hw
        case inr => exact absurd hw.2 hq
        exact h.oper (noDefers_at hl hi) (Oper.wp_mono (fun a w h9 => h.ops hl hq rest a w h9) hw)
      · rw [if_neg hwa] at hw ⊢
        exact ⟨fun f _ => h.fn f, h.ops hl hq rest _ w hw⟩
theorem Wide.region_any {F : Fence} (h : Wide F) {n id : Nat} {l : List Oper} {a : Act} {w : World} (hl : noDefers l = true) (hm : P.follows .mixedOrders = true)
    (hw : wpAny P .any l.toArray (NQ Q) l.toArray.size (Array.replicate l.toArray.size false) a w.drew) : (Code.region id l.toArray true).wpIn F n P Q a w := by
  refine Go.Code.wpIn_mono (Q := NQ Q) (fun e a w h => ?_) (wpIn_region_draw fun t => h.ops hl (fun h9 => NQ.out h9) _ _ _ ?_)
  · cases e <;> first | exact h | exact h.elim
  · simp only [Region.schedule, hm, Bool.true_or, if_true]
    exact wpAny_sound l.toArray.size t _ a _ hw
/-- A region that draws nothing. -/
theorem Wide.region_list {F : Fence} (h : Wide F) {n id : Nat} {l : List Oper} {a : Act} {w : World} (hl : noDefers l = true) (hw : wpList P l.toArray (NQ Q) l a w) : (Code.region id l.toArray false).wpIn F n P Q a w := by
  refine Go.Code.wpIn_mono (Q := NQ Q) (fun e a w h => ?_) (wpIn_region (h.ops hl (fun h9 => NQ.out h9) _ _ _ ?_))
  · cases e <;> first | exact h | exact h.elim
  · have := wpOps_eq_wpList (P := P) (ops := l.toArray) (Q := NQ Q) l 0 (by simp)
    rw [List.range_eq_range', show l.toArray.size = l.length from by simp, this]
    exact hw
theorem Wide.region_tree {F : Fence} (h9 : Wide F) {n id : Nat} {l : List Oper} {a : Act} {w : World} (fl : List Nat) (U : Nat → Prop) (t : Tr) (hl : noDefers l = true) (hm : P.follows .mixedOrders = true) (hc : treeB P l fl t = true)
    (h : wpTr P l fl U w.drew Q t a w.drew) : (Code.region id l.toArray true).wpIn F n P Q a w := by
  simp only [treeB, Bool.and_eq_true, decide_eq_true_eq] at hc
  obtain ⟨⟨hs, hB⟩, hd⟩ := hc
  have h1 := (tree_any (P := P) (Q := Q) (fl := fl) (U := U) (w0 := w.drew) hs t).1 l.length (Array.replicate l.length false) a w.drew hd (replicate_closed _) (fun _ _ => rfl) hB h
  exact h9.region_any hl hm (wpAny_of_B _ _ _ _ (by simpa using h1))
theorem Wide.region_canon {F : Fence} (h9 : Wide F) {n id : Nat} {l : List Oper} {a : Act} {w : World} (ord : List Nat) (hl : noDefers l = true) (hm : P.follows .mixedOrders = true) (hc : checkB P l ord = true)
    (h : wpList P l.toArray (ChkQ l Q) (ord.map fun k => l.getD k default) a w.drew) : (Code.region id l.toArray true).wpIn F n P Q a w := by
  simp only [checkB, Bool.and_eq_true, beq_iff_eq] at hc
  obtain ⟨⟨⟨⟨hs, hB⟩, hS⟩, hlt⟩, hlen⟩ := hc
  have hlt' : ∀ k ∈ ord, k < l.length := fun k hk => by simpa using List.all_eq_true.1 hlt k hk
  have h1 := canon_any (P := P) (Q := Q) (U := noKeep) (w0 := w.drew) hs ord (Array.replicate l.length false) a w.drew (replicate_closed _) (fun _ hb => hb.elim) hB (cWalk_of_list ord a _ hlt' hS h)
  rw [hlen] at h1
  exact h9.region_any hl hm (wpAny_of_B _ _ _ _ (by simpa using h1))
theorem Wide.region_text {F : Fence} (h9 : Wide F) {n id : Nat} {l : List Oper} {a : Act} {w : World} (hl : noDefers l = true) (hm : P.follows .mixedOrders = true) (hc : checkB P l (List.range l.length) = true)
    (h : wpList P l.toArray (ChkQ l Q) l a w.drew) : (Code.region id l.toArray true).wpIn F n P Q a w := by
  refine h9.region_canon (List.range l.length) hl hm hc ?_
  have : (List.range l.length).map (fun k => l.getD k default) = l := by
    apply List.ext_getElem
    · simp
    · intro n h1 h2
      simp [List.getD, h2]
  rw [this]
  exact h
end inround
end Go.Canon

namespace Go.Canon
open Go
section last
variable {P : Program} {ops : Array Oper} {Q : Exit → Act → World → Prop}
def Tr.isFin : Tr → Bool
  | .fin => true
  | _ => false
/-- Whatever order is picked from here on; a quiet operation leaves the world as it is, every one but m leaves the blocks of U. -/
def wpAnyM (P : Program) (ops : Array Oper) (Q : Exit → Act → World → Prop) (m : Nat) (U : Nat → Prop) (w0 : World) : Nat → Array Bool → Act → World → Prop
  | 0, listed, a, w => Region.ready .any ops listed = [] ∧ Q .normal a w
  | f + 1, listed, a, w => (Region.ready .any ops listed = [] → Q .normal a w) ∧
    ∀ j ∈ Region.ready .any ops listed, wpOp P ops (NQ Q) j (fun a' w' => ((∀ oj, ops[j]? = some oj → isQuiet P oj = true → w' = w) ∧ (j ≠ m → KeepU U w0 w')) ∧ wpAnyM P ops Q m U w0 f (listed.setIfInBounds j true) a' w') a w
theorem wpAny_of_M {m : Nat} {U : Nat → Prop} {w0 : World} : ∀ (f : Nat) (listed : Array Bool) (a : Act) (w : World), wpAnyM P ops Q m U w0 f listed a w → wpAny P .any ops (NQ Q) f listed a w
  | 0, _, _, _, h => h
  | f + 1, _, _, _, h => ⟨h.1, fun i hi => wpOp_mono (fun a' w' h' => wpAny_of_M f _ a' w' h'.2) (h.2 i hi)⟩
theorem firstM {m : Nat} {U : Nat → Prop} {w0 : World} {i : Nat} {oi : Oper} {v : Value} (hi : ops[i]? = some oi) (hsel : ∀ (j : Nat) (o : Oper) cs b, ops[j]? = some o → o.op ≠ .select cs b) :
    ∀ (f : Nat) (listed : Array Bool) (a : Act) (w : World), Closed ops listed → KeepU U w0 w →
      (∀ j oj, ops[j]? = some oj → j ≠ i → listed.getD j true = false → (∀ e ∈ oj.after, Region.binds .any e = true → e.on ≠ i) → oi.apart ops oj = true) →
      (∀ om, ops[m]? = some om → ∃ e ∈ om.after, Region.binds .any e = true ∧ e.on = i) →
      i ∈ Region.ready .any ops listed → YNow P ops oi v a w → (YieldsU P ops U w0 oi v a ∨ LoadOk P ops i listed) →
      wpAnyM P ops Q m U w0 f (listed.setIfInBounds i true) (a.put oi.dst v) w → wpAnyM P ops Q m U w0 (f + 1) listed a w := by
  intro f
  induction f with
  | zero =>
    intro listed a w _ hu _ _ hr hy _ H
    refine ⟨fun h => (by rw [h] at hr; cases hr), fun j hj => ?_⟩
    by_cases hji : j = i
    · subst hji; exact hy.wpOp hi ⟨⟨fun _ _ _ => rfl, fun _ => hu⟩, H⟩
    · have := ready_mono hj hji
      rw [H.1] at this
      cases this
  | succ f ih =>
    intro listed a w hc hu hfree hlast hr hy hyl H
    refine ⟨fun h => (by rw [h] at hr; cases hr), fun j hj => ?_⟩
    by_cases hji : j = i
    · subst hji; exact hy.wpOp hi ⟨⟨fun _ _ _ => rfl, fun _ => hu⟩, H⟩
    · have h1 := H.2 j (ready_mono hj hji)
      obtain ⟨hjun, oj, hoj, hall⟩ := mem_ready.1 hj
      have hiun := getD_false_of (mem_ready.1 hr).1
      have hnot : ∀ e ∈ oj.after, Region.binds .any e = true → e.on ≠ i := fun e he hb heq => by
        have h2 := hall e he hb
        rw [heq, hiun] at h2
        cases h2
      have h2 := wpOp_swap hoj (hfree j oj hoj hji hjun hnot) (fun cs b => hsel i oi cs b hi) (fun cs b => hsel j oj cs b hoj) h1
      have hfree' : ∀ k ok, ops[k]? = some ok → k ≠ i → (listed.setIfInBounds j true).getD k true = false →
          (∀ e ∈ ok.after, Region.binds .any e = true → e.on ≠ i) → oi.apart ops ok = true := fun k ok hk hki hun hno => by
        refine hfree k ok hk hki ?_ hno
        by_cases hjk : j = k
        · subst hjk; exact hjun
        · rw [getD_set_ne true hjk] at hun; exact hun
      refine wpOp_mono (fun a' w' h3 => ?_) h2
      obtain ⟨hview, ⟨hq, hu'⟩, hrest⟩ := h3
      have hjm : j ≠ m := by
        intro e9
        subst e9
        obtain ⟨e, he, hb, h9⟩ := hlast oj hoj
        exact hnot e he hb h9
      replace hu' := hu' hjm
      refine ⟨⟨hq, fun _ => hu'⟩, ?_⟩
      rw [Array.setIfInBounds_comm _ _ (Ne.symm hji)] at hrest
      have hyl' : YieldsU P ops U w0 oi v a' ∨ LoadOk P ops i (listed.setIfInBounds j true) := hyl.imp (fun h => h.view hview) LoadOk.set
      refine ih (listed.setIfInBounds j true) a' w' (hc.set hj) hu' hfree' hlast (ready_mono hr (Ne.symm hji)) ?_ hyl' hrest
      cases hqj : isQuiet P oj with
      | true => rw [hq oj hoj hqj]; exact hy.view hview
      | false =>
        rcases hyl with h | ⟨G, hG, hh⟩
        · exact (h.view hview).now hu'
        · have h4 := hh j oj hoj hqj (without_ready hG hc hiun hj hji)
          rw [getD_false_of hjun] at h4
          cases h4

def okTrM (P : Program) (l : List Oper) (m : Nat) (fl : List Nat) : Tr → Array Bool → Bool → Bool
  | .fin, listed, b => !b && (Region.ready .any l.toArray listed).isEmpty
  | .no, _, b => b
  | .seg ks t, listed, b => !b && okSeg P l fl ks listed && ks.all (decide <| · < l.length) && ssaB l (ks ++ t.path) && okTrM P l m fl t (setAll ks listed) false
  | .alt k t or, listed, b => (b || (Region.ready .any l.toArray listed).all fun j => (k :: or.heads).contains j) && (Region.ready .any l.toArray listed).contains k && decide (k < l.length) && !isQuiet P (l.getD k default) && ssaB l (k :: t.path) && (k != m || t.isFin) &&
      okTrM P l m fl t (listed.setIfInBounds k true) false && okTrM P l m fl or listed true

/-- The tree, walked; the last operation, m, may write what it likes. -/
def wpTrM (P : Program) (l : List Oper) (m : Nat) (fl : List Nat) (U : Nat → Prop) (w0 : World) (Q : Exit → Act → World → Prop) : Tr → Act → World → Prop
  | .fin, a, w => (l.all (binOk a) = true ∧ ∀ k ∈ fl, FlOk U w0 (l.getD k default) a) ∧ Q .normal a w
  | .no, _, _ => True
  | .seg ks t, a, w => wpList P l.toArray (SegQ (wpTrM P l m fl U w0 Q t)) (ks.map fun k => l.getD k default) a w
  | .alt k t or, a, w => wpList P l.toArray (SegQ fun a' w' => (k ≠ m → KeepU U w0 w') ∧ wpTrM P l m fl U w0 Q t a' w') [l.getD k default] a w ∧ wpTrM P l m fl U w0 Q or a w

theorem reachM {l : List Oper} {m : Nat} {fl : List Nat} {U : Nat → Prop} {w0 : World} (φ : Act → Prop) (hQ : ∀ a, (l.all (binOk a) = true ∧ ∀ k ∈ fl, FlOk U w0 (l.getD k default) a) → φ a)
    (hdef : ∀ a d, φ { a with defers := d } → φ a) : ∀ (t : Tr) (listed : Array Bool) (a : Act) (w : World), okTrM P l m fl t listed false = true → (∀ k ∈ t.path, ∀ a v, φ (a.put (l.getD k default).dst v) → φ a) →
    wpTrM P l m fl U w0 Q t a w → φ a
  | .fin, _, a, w, _, _, h => hQ a h.1
  | .no, _, _, _, ho, _, _ => by simp [okTrM] at ho
  | .seg ks t, listed, a, w, ho, hput, h => by
    simp only [okTrM, Bool.and_eq_true] at ho
    refine reach (ops := l.toArray) φ (fun a w hh => reachM φ hQ hdef t _ a w ho.2 (fun k hk => hput k (List.mem_append_right _ hk)) hh) (fun e a w hh => ?_) hdef _ a w (fun o hom => ?_) h
    · cases e <;> first | rfl | exact hh.elim
    · obtain ⟨k, hk, rfl⟩ := List.mem_map.1 hom
      exact hput k (List.mem_append_left _ hk)
  | .alt k t or, listed, a, w, ho, hput, h => by
    simp only [okTrM, Bool.and_eq_true] at ho
    refine reach (ops := l.toArray) φ (fun a w hh => reachM φ hQ hdef t _ a w ho.1.2 (fun k hk => hput k (List.mem_cons_of_mem _ hk)) hh.2) (fun e a w hh => ?_) hdef _ a w (fun o hom => ?_) h.1
    · cases e <;> first | rfl | exact hh.elim
    · have hom : o = l.getD k default := by simpa using hom
      subst hom
      exact hput k List.mem_cons_self

/-- m comes behind all others, and is not quiet. -/
def lastB (P : Program) (l : List Oper) (m : Nat) : Bool := !isQuiet P (l.getD m default) && (List.range l.length).all fun i => i == m || (l.getD m default).after.any fun e => Region.binds .any e && e.on == i
theorem lastB_spec {l : List Oper} {m : Nat} (h : lastB P l m = true) {i : Nat} (hi : i < l.length) (hq : isQuiet P (l.getD i default) = true) : ∀ om, l.toArray[m]? = some om → ∃ e ∈ om.after, Region.binds .any e = true ∧ e.on = i := by
  intro om hom
  simp only [lastB, Bool.and_eq_true, Bool.not_eq_true'] at h
  have h1 := List.all_eq_true.1 h.2 i (List.mem_range.2 hi)
  have hne : i ≠ m := by
    intro e
    rw [e, h.1] at hq
    cases hq
  have hm : om = l.getD m default := by
    have hom : l[m]? = some om := by simpa using hom
    rw [List.getD_eq_getElem?_getD, hom]
    rfl
  subst hm
  have hbe : (i == m) = false := by simpa using hne
  rw [hbe, Bool.false_or, Array.any_eq_true] at h1
  obtain ⟨j, hj, he⟩ := h1
  simp only [Bool.and_eq_true, beq_iff_eq] at he
  exact ⟨_, Array.getElem_mem hj, he.1, he.2⟩

theorem tree_anyM {l : List Oper} {m : Nat} {fl : List Nat} {U : Nat → Prop} {w0 : World} (hs : Region.noSelect l.toArray = true) (hL : lastB P l m = true) : ∀ (t : Tr),
    (∀ (f : Nat) (listed : Array Bool) (a : Act) (w : World), t.depth ≤ f → Closed l.toArray listed → (t.isFin = true ∨ KeepU U w0 w) → okTrM P l m fl t listed false = true → wpTrM P l m fl U w0 Q t a w → wpAnyM P l.toArray Q m U w0 f listed a w) ∧
    (∀ (f : Nat) (listed : Array Bool) (a : Act) (w : World), t.depth ≤ f + 1 → Closed l.toArray listed → KeepU U w0 w → okTrM P l m fl t listed true = true → wpTrM P l m fl U w0 Q t a w →
      ∀ j ∈ t.heads, wpOp P l.toArray (NQ Q) j (fun a' w' => ((∀ oj, l.toArray[j]? = some oj → isQuiet P oj = true → w' = w) ∧ (j ≠ m → KeepU U w0 w')) ∧ wpAnyM P l.toArray Q m U w0 f (listed.setIfInBounds j true) a' w') a w)
  | .fin => by
    refine ⟨fun f listed a w _ _ _ ho h => ?_, fun f listed a w _ _ _ _ _ j hj => by cases hj⟩
    have hr : Region.ready .any l.toArray listed = [] := by simpa [okTrM] using ho
    cases f with
    | zero => exact ⟨hr, h.2⟩
    | succ f => exact ⟨fun _ => h.2, fun j hj => by rw [hr] at hj; cases hj⟩
  | .no => ⟨fun f listed a w _ _ _ ho _ => by simp [okTrM] at ho, fun f listed a w _ _ _ _ _ j hj => by cases hj⟩
  | .seg ks t => by
    refine ⟨?_, fun f listed a w _ _ _ _ _ j hj => by cases hj⟩
    have ih := (tree_anyM (fl := fl) (U := U) (w0 := w0) hs hL t).1
    intro f listed a w hd hc hu ho h
    replace hu : KeepU U w0 w := by
      rcases hu with hu | hu
      · cases hu
      · exact hu
    simp only [okTrM, Bool.and_eq_true, Bool.not_false, true_and] at ho
    obtain ⟨⟨⟨ho, hlt⟩, hS⟩, hot⟩ := ho
    simp only [Tr.depth] at hd
    change wpList P l.toArray (SegQ (wpTrM P l m fl U w0 Q t)) (ks.map fun k => l.getD k default) a w at h
    induction ks generalizing f listed a w with
    | nil => exact ih f listed a w (by simpa using hd) hc (.inr hu) hot h
    | cons k ks ihk =>
      simp only [okSeg, Bool.and_eq_true] at ho
      simp only [List.all_cons, Bool.and_eq_true, decide_eq_true_eq] at hlt
      simp only [List.cons_append, ssaB, Bool.and_eq_true] at hS
      have hget : l.toArray[k]? = some (l.getD k default) := by simp [List.getD, hlt.1]
      obtain ⟨hr', o, hoo, hf, hq, H⟩ := step_quiet (Q := Q) (a := a) hu ho.1
      have hoe : o = l.getD k default := Option.some.inj (hoo.symm.trans hget)
      have hat := at_op (fl := fl) (U := U) (w0 := w0) (a := a) hlt.1 hS.1 (fun φ hφ hdef hput => by
        refine reach (P := P) (ops := l.toArray) φ (fun a w hh => reachM (P := P) (Q := Q) φ hφ hdef t _ a w hot (fun k hk => hput k (by simp [hk])) hh) (fun e a w hh => ?_) hdef _ a w (fun o hom => ?_) h
        · cases e <;> first | rfl | exact hh.elim
        · obtain ⟨k', hk', rfl⟩ := List.mem_map.1 hom
          exact hput k' (by rcases List.mem_cons.1 hk' with h | h <;> simp [h]))
      rw [← hoe] at hat
      obtain ⟨v, hy, hyl, hrest⟩ := H _ hat.1 hat.2 (wpOp_of_list hlt.1 h)
      cases f with
      | zero => simp at hd
      | succ f => exact firstM (m := m) hoo (Region.noSelect_spec hs) f listed a w hc hu (Region.free_spec hoo hf) (lastB_spec hL hlt.1 (by rw [← hoe]; exact hq)) hr' hy hyl (ihk f _ _ _ (by simp only [List.length_cons] at hd; omega) (hc.set hr') hu hot hS.2 ho.2 hlt.2 hrest)
  | .alt k t or => by
    have ih := (tree_anyM (fl := fl) (U := U) (w0 := w0) hs hL t).1
    have iho := (tree_anyM (fl := fl) (U := U) (w0 := w0) hs hL or).2
    have alts : ∀ (f : Nat) (listed : Array Bool) (a : Act) (w : World), (Tr.alt k t or).depth ≤ f + 1 → Closed l.toArray listed → KeepU U w0 w → okTrM P l m fl (.alt k t or) listed true = true → wpTrM P l m fl U w0 Q (.alt k t or) a w →
      ∀ j ∈ (Tr.alt k t or).heads, wpOp P l.toArray (NQ Q) j (fun a' w' => ((∀ oj, l.toArray[j]? = some oj → isQuiet P oj = true → w' = w) ∧ (j ≠ m → KeepU U w0 w')) ∧ wpAnyM P l.toArray Q m U w0 f (listed.setIfInBounds j true) a' w') a w := by
      intro f listed a w hd hc hu ho h j hj
      simp only [okTrM, Bool.and_eq_true, Bool.true_or, true_and, Bool.not_eq_true', decide_eq_true_eq] at ho
      obtain ⟨⟨⟨⟨⟨⟨hr, hlt⟩, hq⟩, hS⟩, hfin⟩, hot⟩, hoo⟩ := ho
      simp only [Tr.depth] at hd
      rcases List.mem_cons.1 hj with rfl | hj
      · have hget : l.toArray[j]? = some (l.getD j default) := by simp [List.getD, hlt]
        have hr' : j ∈ Region.ready .any l.toArray listed := by simpa using hr
        refine wpOp_mono (fun a' w' h' => ?_) (wpOp_of_list (ks := []) hlt h.1)
        obtain ⟨hu', ht⟩ := h'
        have hu2 : t.isFin = true ∨ KeepU U w0 w' := by
          by_cases hjm : j = m
          · simp only [hjm, bne_self_eq_false, Bool.false_or] at hfin
            exact .inl hfin
          · exact .inr (hu' hjm)
        refine ⟨⟨fun oj hoj hqj => ?_, hu'⟩, ih f _ a' w' (by omega) (hc.set hr') hu2 hot ht⟩
        have : oj = l.getD j default := Option.some.inj (hoj.symm.trans hget)
        rw [this, hq] at hqj
        cases hqj
      · exact iho f listed a w (by omega) hc hu hoo h.2 j hj
    refine ⟨fun f listed a w hd hc hu ho h => ?_, alts⟩
    have ho2 := ho
    simp only [okTrM, Bool.and_eq_true, Bool.false_or] at ho
    replace hu : KeepU U w0 w := by
      rcases hu with hu | hu
      · cases hu
      · exact hu
    obtain ⟨⟨⟨⟨⟨⟨⟨hready, hk1⟩, hlt1⟩, hq1⟩, hS1⟩, hfin1⟩, hot1⟩, hor1⟩ := ho
    have hk : k ∈ Region.ready .any l.toArray listed := by simpa using hk1
    have ho3 : okTrM P l m fl (.alt k t or) listed true = true := by
      simp only [okTrM, Bool.and_eq_true, Bool.true_or, true_and]
      exact ⟨⟨⟨⟨⟨⟨hk1, hlt1⟩, hq1⟩, hS1⟩, hfin1⟩, hot1⟩, hor1⟩
    cases f with
    | zero => simp only [Tr.depth] at hd; omega
    | succ f =>
      refine ⟨fun h0 => (by rw [h0] at hk; cases hk), fun j hj => ?_⟩
      have hj2 := List.all_eq_true.1 hready j hj
      exact alts f listed a w hd hc hu ho3 h j (by simpa [Tr.heads] using hj2)

def treeM (P : Program) (l : List Oper) (m : Nat) (fl : List Nat) (t : Tr) : Bool := lastB P l m && Region.noSelect l.toArray && okTrM P l m fl t (Array.replicate l.length false) false && decide (t.depth ≤ l.length)
/-- A region that draws its order, walked by a tree of orders; m: the last operation. 'fl': the loads that float over what changes the world (their blocks are of U, which nobody but m writes). -/
theorem any_last {l : List Oper} {a : Act} {w : World} (m : Nat) (fl : List Nat) (U : Nat → Prop) (t : Tr) (hc : treeM P l m fl t = true)
    (h : wpTrM P l m fl U w Q t a w) : wpAny P .any l.toArray (NQ Q) l.toArray.size (Array.replicate l.toArray.size false) a w := by
  simp only [treeM, Bool.and_eq_true, decide_eq_true_eq] at hc
  obtain ⟨⟨⟨hL, hs⟩, hB⟩, hd⟩ := hc
  have h1 := (tree_anyM (P := P) (Q := Q) (m := m) (fl := fl) (U := U) (w0 := w) hs hL t).1 l.length (Array.replicate l.length false) a w hd (replicate_closed _) (.inr fun _ _ => rfl) hB h
  exact wpAny_of_M _ _ _ _ (by simpa using h1)
theorem wp_region_last {id : Nat} {l : List Oper} {a : Act} {w : World} (m : Nat) (fl : List Nat) (U : Nat → Prop) (t : Tr) (hm : P.follows .mixedOrders = true) (hc : treeM P l m fl t = true)
    (h : wpTrM P l m fl U w.drew Q t a w.drew) : (Code.region id l.toArray true).wp P Q a w := by
  refine Code.wp_mono (Q := NQ Q) (fun e a w h => ?_) (wp_region_any hm (any_last m fl U t hc h))
  cases e <;> first | exact h | exact h.elim
theorem Wide.region_last {F : Fence} (h9 : Wide F) {n id : Nat} {l : List Oper} {a : Act} {w : World} (m : Nat) (fl : List Nat) (U : Nat → Prop) (t : Tr) (hl : noDefers l = true) (hm : P.follows .mixedOrders = true) (hc : treeM P l m fl t = true)
    (h : wpTrM P l m fl U w.drew Q t a w.drew) : (Code.region id l.toArray true).wpIn F n P Q a w :=
  h9.region_any hl hm (any_last m fl U t hc h)

section
variable {l : List Oper} {m : Nat} {fl : List Nat} {U : Nat → Prop} {w0 : World} {a : Act} {w : World}
theorem trm_seg {ks : List Nat} {t : Tr} (h : wpList P l.toArray (SegQ (wpTrM P l m fl U w0 Q t)) (ks.map fun k => l.getD k default) a w) : wpTrM P l m fl U w0 Q (.seg ks t) a w := h
theorem trm_to {K : Act → World → Prop} (h : K a w) : SegQ K .normal a w := h
theorem trm_alt {k : Nat} {t or : Tr} (h : wpList P l.toArray (SegQ fun a' w' => (k ≠ m → KeepU U w0 w') ∧ wpTrM P l m fl U w0 Q t a' w') [l.getD k default] a w) (h2 : wpTrM P l m fl U w0 Q or a w) : wpTrM P l m fl U w0 Q (.alt k t or) a w := ⟨h, h2⟩
theorem trm_one {k : Nat} {t : Tr} (h : wpList P l.toArray (SegQ fun a' w' => (k ≠ m → KeepU U w0 w') ∧ wpTrM P l m fl U w0 Q t a' w') [l.getD k default] a w) : wpTrM P l m fl U w0 Q (.alt k t .no) a w := ⟨h, trivial⟩
theorem trm_no : wpTrM P l m fl U w0 Q .no a w := trivial
theorem trm_end {k : Nat} {t : Tr} (h1 : KeepU U w0 w) (h2 : wpTrM P l m fl U w0 Q t a w) : SegQ (fun a' w' => (k ≠ m → KeepU U w0 w') ∧ wpTrM P l m fl U w0 Q t a' w') .normal a w := ⟨fun _ => h1, h2⟩
theorem trm_last {t : Tr} (h2 : wpTrM P l m fl U w0 Q t a w) : SegQ (fun a' w' => (m ≠ m → KeepU U w0 w') ∧ wpTrM P l m fl U w0 Q t a' w') .normal a w := ⟨fun h => absurd rfl h, h2⟩
theorem trm_fin (h1 : l.all (binOk a) = true) (h2 : ∀ k ∈ fl, FlOk U w0 (l.getD k default) a) (hQ : Q .normal a w) : wpTrM P l m fl U w0 Q .fin a w := ⟨⟨h1, h2⟩, hQ⟩
end
end last
end Go.Canon
