/- Regions that draw their order, where more than once several operations that change the world may come up: a tree of orders. Regions in a round of a loop over a function: walked as everywhere. Regions that draw their order, the last operation of which (all others go ahead of it) writes what it likes. -/
import Derived.Test.YtpbdcppaiafbgaaGreatCanon
import Derived.RangeFuncCalls
import Derived.TacticsIn
namespace Go.Canon
open Go
section tree
variable {P : Program} {Q : Exit → Act → World → Prop}

inductive Tr where
  | fin
  | seg (ks : List Nat) (t : Tr)
  | alt (k : Nat) (t : Tr) (or : Tr)
  | no

def Tr.path : Tr → List Nat
  | .fin => []
  | .seg ks t => ks ++ t.path
  | .alt k t _ => k :: t.path
  | .no => []
def Tr.depth : Tr → Nat
  | .fin => 0
  | .seg ks t => ks.length + t.depth
  | .alt _ t or => max (t.depth + 1) or.depth
  | .no => 0
def Tr.heads : Tr → List Nat
  | .alt k _ or => k :: or.heads
  | _ => []
def okSeg (P : Program) (l : List Oper) (fl : List Nat) : List Nat → Array Bool → Bool
  | [], _ => true
  | k :: ks, listed => stepB P l.toArray fl k listed && okSeg P l fl ks (listed.setIfInBounds k true)
def setAll : List Nat → Array Bool → Array Bool
  | [], listed => listed
  | k :: ks, listed => setAll ks (listed.setIfInBounds k true)
def okTr (P : Program) (l : List Oper) (fl : List Nat) : Tr → Array Bool → Bool → Bool
  | .fin, listed, b => !b && (Region.ready .any l.toArray listed).isEmpty
  | .no, _, b => b
  | .seg ks t, listed, b => !b && okSeg P l fl ks listed && ks.all (decide <| · < l.length) && ssaB l (ks ++ t.path) && okTr P l fl t (setAll ks listed) false
  | .alt k t or, listed, b => (b || (Region.ready .any l.toArray listed).all fun j => (k :: or.heads).contains j) && (Region.ready .any l.toArray listed).contains k && decide (k < l.length) && !isQuiet P (l.getD k default) && ssaB l (k :: t.path) &&
      okTr P l fl t (listed.setIfInBounds k true) false && okTr P l fl or listed true

def wpTr (P : Program) (l : List Oper) (fl : List Nat) (U : Nat → Prop) (w0 : World) (Q : Exit → Act → World → Prop) : Tr → Act → World → Prop
  | .fin, a, w => (l.all (binOk a) = true ∧ ∀ k ∈ fl, FlOk U w0 (l.getD k default) a) ∧ Q .normal a w
  | .no, _, _ => True
  | .seg ks t, a, w => wpList P l.toArray (SegQ (wpTr P l fl U w0 Q t)) (ks.map fun k => l.getD k default) a w
  | .alt k t or, a, w => wpList P l.toArray (SegQ fun a' w' => KeepU U w0 w' ∧ wpTr P l fl U w0 Q t a' w') [l.getD k default] a w ∧ wpTr P l fl U w0 Q or a w

theorem reachT {l : List Oper} {fl : List Nat} {U : Nat → Prop} {w0 : World} (φ : Act → Prop) (hQ : ∀ a, (l.all (binOk a) = true ∧ ∀ k ∈ fl, FlOk U w0 (l.getD k default) a) → φ a)
    (hdef : ∀ a d, φ { a with defers := d } → φ a) : ∀ (t : Tr) (listed : Array Bool) (a : Act) (w : World), okTr P l fl t listed false = true → (∀ k ∈ t.path, ∀ a v, φ (a.put (l.getD k default).dst v) → φ a) →
    wpTr P l fl U w0 Q t a w → φ a
  | .fin, _, a, w, _, _, h => hQ a h.1
  | .no, _, _, _, ho, _, _ => by simp [okTr] at ho
  | .seg ks t, listed, a, w, ho, hput, h => by
    simp only [okTr, Bool.and_eq_true] at ho
    refine reach (ops := l.toArray) φ (fun a w hh => reachT φ hQ hdef t _ a w ho.2 (fun k hk => hput k (List.mem_append_right _ hk)) hh) (fun e a w hh => ?_) hdef _ a w (fun o hom => ?_) h
    · cases e <;> first | rfl | exact hh.elim
    · obtain ⟨k, hk, rfl⟩ := List.mem_map.1 hom
      exact hput k (List.mem_append_left _ hk)
  | .alt k t or, listed, a, w, ho, hput, h => by
    simp only [okTr, Bool.and_eq_true] at ho
    refine reach (ops := l.toArray) φ (fun a w hh => reachT φ hQ hdef t _ a w ho.1.2 (fun k hk => hput k (List.mem_cons_of_mem _ hk)) hh.2) (fun e a w hh => ?_) hdef _ a w (fun o hom => ?_) h.1
    · cases e <;> first | rfl | exact hh.elim
    · have hom : o = l.getD k default := by simpa using hom
      subst hom
      exact hput k List.mem_cons_self

theorem wpOp_of_list {l : List Oper} {k : Nat} {ks : List Nat} {R : Act → World → Prop} {a : Act} {w : World} (hk : k < l.length) (h : wpList P l.toArray (SegQ R) ((k :: ks).map fun k => l.getD k default) a w) :
    wpOp P l.toArray (NQ Q) k (fun a' w' => wpList P l.toArray (SegQ R) (ks.map fun k => l.getD k default) a' w') a w := by
  have hget : l.toArray[k]? = some (l.getD k default) := by simp [List.getD, hk]
  unfold wpOp
  simp only [hget]
  simp only [List.map_cons] at h
  unfold wpList at h
  by_cases hw : Region.wanted (l.getD k default) (yielded l.toArray a.tmps) = true
  · rw [if_pos hw] at h ⊢
    rcases h with h | ⟨_, a', w', h⟩
    case inr => exact h.elim
    refine .inl ?_
    unfold Oper.wp at h ⊢
    generalize (execOp a.eval (l.getD k default)).run P w = r at *
    cases r with
    | ok n w' =>
      cases n <;> simp only [Oper.upon] at h ⊢ <;> first
        | exact h
        | (refine Calls.mono h fun e w'' he => ?_
           cases e with
           | returned u => exact he
           | panicked c => exact he
           | outgrown => obtain ⟨a', w', h⟩ := he; exact h.elim)
    | halt x w' => cases x <;> simp only [Oper.upon] at h ⊢ <;> exact h
  · rw [if_neg hw] at h ⊢
    exact h

theorem at_op {l : List Oper} {fl : List Nat} {U : Nat → Prop} {w0 : World} {k : Nat} {rest : List Nat} {a : Act} (hk : k < l.length) (hS : ((k :: rest).all (fun k' => match (l.getD k' default).dst with | some d => !(opTmps (l.getD k default)).contains d | none => true)) = true)
    (H : ∀ φ : Act → Prop, (∀ a, (l.all (binOk a) = true ∧ ∀ k ∈ fl, FlOk U w0 (l.getD k default) a) → φ a) → (∀ a d, φ { a with defers := d } → φ a) → (∀ k' ∈ k :: rest, ∀ a v, φ (a.put (l.getD k' default).dst v) → φ a) → φ a) :
    binOk a (l.getD k default) = true ∧ (fl.contains k = true → FlOk U w0 (l.getD k default) a) := by
  have hmem : l.getD k default ∈ l := by
    have : l.getD k default = l[k] := by simp [List.getD, hk]
    rw [this]; exact List.getElem_mem hk
  have hdst : ∀ k' ∈ k :: rest, ∀ d, (l.getD k' default).dst = some d → d ∉ opTmps (l.getD k default) := fun k' hk' d hd => by
    have h1 := List.all_eq_true.1 hS k' hk'
    rw [hd] at h1
    simpa using h1
  refine ⟨?_, fun hfl => ?_⟩
  · refine H (fun a => binOk a (l.getD k default) = true) (fun a hc => List.all_eq_true.1 hc.1 _ hmem) (fun a d h => h) (fun k' hk' a v hv => ?_)
    rw [binOk_put (hdst k' hk')] at hv
    exact hv
  · exact H (fun a => FlOk U w0 (l.getD k default) a) (fun a hc => hc.2 k (by simpa using hfl)) (fun a d h => by
      unfold FlOk at h ⊢
      exact h) (fun k' hk' a v hv => flOk_put (hdst k' hk') hv)

theorem tree_any {l : List Oper} {fl : List Nat} {U : Nat → Prop} {w0 : World} (hs : Region.noSelect l.toArray = true) : ∀ (t : Tr),
    (∀ (f : Nat) (listed : Array Bool) (a : Act) (w : World), t.depth ≤ f → Closed l.toArray listed → KeepU U w0 w → okTr P l fl t listed false = true → wpTr P l fl U w0 Q t a w → wpAnyB P l.toArray Q U w0 f listed a w) ∧
    (∀ (f : Nat) (listed : Array Bool) (a : Act) (w : World), t.depth ≤ f + 1 → Closed l.toArray listed → KeepU U w0 w → okTr P l fl t listed true = true → wpTr P l fl U w0 Q t a w →
      ∀ j ∈ t.heads, wpOp P l.toArray (NQ Q) j (fun a' w' => ((∀ oj, l.toArray[j]? = some oj → isQuiet P oj = true → w' = w) ∧ KeepU U w0 w') ∧ wpAnyB P l.toArray Q U w0 f (listed.setIfInBounds j true) a' w') a w)
  | .fin => by
    refine ⟨fun f listed a w _ _ _ ho h => ?_, fun f listed a w _ _ _ _ _ j hj => by cases hj⟩
    have hr : Region.ready .any l.toArray listed = [] := by simpa [okTr] using ho
    cases f with
    | zero => exact ⟨hr, h.2⟩
    | succ f => exact ⟨fun _ => h.2, fun j hj => by rw [hr] at hj; cases hj⟩
  | .no => ⟨fun f listed a w _ _ _ ho _ => by simp [okTr] at ho, fun f listed a w _ _ _ _ _ j hj => by cases hj⟩
  | .seg ks t => by
    refine ⟨?_, fun f listed a w _ _ _ _ _ j hj => by cases hj⟩
    have ih := (tree_any (fl := fl) (U := U) (w0 := w0) hs t).1
    intro f listed a w hd hc hu ho h
    simp only [okTr, Bool.and_eq_true, Bool.not_false, true_and] at ho
    obtain ⟨⟨⟨ho, hlt⟩, hS⟩, hot⟩ := ho
    simp only [Tr.depth] at hd
    change wpList P l.toArray (SegQ (wpTr P l fl U w0 Q t)) (ks.map fun k => l.getD k default) a w at h
    induction ks generalizing f listed a w with
    | nil => exact ih f listed a w (by simpa using hd) hc hu hot h
    | cons k ks ihk =>
      simp only [okSeg, Bool.and_eq_true] at ho
      simp only [List.all_cons, Bool.and_eq_true, decide_eq_true_eq] at hlt
      simp only [List.cons_append, ssaB, Bool.and_eq_true] at hS
      have hget : l.toArray[k]? = some (l.getD k default) := by simp [List.getD, hlt.1]
      obtain ⟨hr', o, hoo, hf, hq, H⟩ := step_quiet (Q := Q) (a := a) hu ho.1
      have hoe : o = l.getD k default := Option.some.inj (hoo.symm.trans hget)
      have hat := at_op (fl := fl) (U := U) (w0 := w0) (a := a) hlt.1 hS.1 (fun φ hφ hdef hput => by
        refine reach (P := P) (ops := l.toArray) φ (fun a w hh => reachT (P := P) (Q := Q) φ hφ hdef t _ a w hot (fun k hk => hput k (by simp [hk])) hh) (fun e a w hh => ?_) hdef _ a w (fun o hom => ?_) h
        · cases e <;> first | rfl | exact hh.elim
        · obtain ⟨k', hk', rfl⟩ := List.mem_map.1 hom
          exact hput k' (by rcases List.mem_cons.1 hk' with h | h <;> simp [h]))
      rw [← hoe] at hat
      obtain ⟨v, hy, hyl, hrest⟩ := H _ hat.1 hat.2 (wpOp_of_list hlt.1 h)
      cases f with
      | zero => simp at hd
      | succ f => exact first hoo (Region.noSelect_spec hs) f listed a w hc hu (Region.free_spec hoo hf) hr' hy hyl (ihk f _ _ _ (by simp only [List.length_cons] at hd; omega) (hc.set hr') hu hot hS.2 ho.2 hlt.2 hrest)
  | .alt k t or => by
    have ih := (tree_any (fl := fl) (U := U) (w0 := w0) hs t).1
    have iho := (tree_any (fl := fl) (U := U) (w0 := w0) hs or).2
    have alts : ∀ (f : Nat) (listed : Array Bool) (a : Act) (w : World), (Tr.alt k t or).depth ≤ f + 1 → Closed l.toArray listed → KeepU U w0 w → okTr P l fl (.alt k t or) listed true = true → wpTr P l fl U w0 Q (.alt k t or) a w →
      ∀ j ∈ (Tr.alt k t or).heads, wpOp P l.toArray (NQ Q) j (fun a' w' => ((∀ oj, l.toArray[j]? = some oj → isQuiet P oj = true → w' = w) ∧ KeepU U w0 w') ∧ wpAnyB P l.toArray Q U w0 f (listed.setIfInBounds j true) a' w') a w := by
      intro f listed a w hd hc hu ho h j hj
      simp only [okTr, Bool.and_eq_true, Bool.true_or, true_and, Bool.not_eq_true', decide_eq_true_eq] at ho
      obtain ⟨⟨⟨⟨⟨hr, hlt⟩, hq⟩, hS⟩, hot⟩, hoo⟩ := ho
      simp only [Tr.depth] at hd
      rcases List.mem_cons.1 hj with rfl | hj
      · have hget : l.toArray[j]? = some (l.getD j default) := by simp [List.getD, hlt]
        have hr' : j ∈ Region.ready .any l.toArray listed := by simpa using hr
        refine wpOp_mono (fun a' w' h' => ?_) (wpOp_of_list (ks := []) hlt h.1)
        obtain ⟨hu', ht⟩ := h'
        refine ⟨⟨fun oj hoj hqj => ?_, hu'⟩, ih f _ a' w' (by omega) (hc.set hr') hu' hot ht⟩
        have : oj = l.getD j default := Option.some.inj (hoj.symm.trans hget)
        rw [this, hq] at hqj
        cases hqj
      · exact iho f listed a w (by omega) hc hu hoo h.2 j hj
    refine ⟨fun f listed a w hd hc hu ho h => ?_, alts⟩
    have ho2 := ho
    simp only [okTr, Bool.and_eq_true, Bool.false_or] at ho
    have hready := ho.1.1.1.1.1.1
    have hk : k ∈ Region.ready .any l.toArray listed := by simpa using ho.1.1.1.1.1.2
    have ho3 : okTr P l fl (.alt k t or) listed true = true := by
      simp only [okTr, Bool.and_eq_true, Bool.true_or, true_and]
      exact ⟨⟨⟨⟨⟨ho.1.1.1.1.1.2, ho.1.1.1.1.2⟩, ho.1.1.1.2⟩, ho.1.1.2⟩, ho.1.2⟩, ho.2⟩
    cases f with
    | zero => simp only [Tr.depth] at hd; omega
    | succ f =>
      refine ⟨fun h0 => (by rw [h0] at hk; cases hk), fun j hj => ?_⟩
      have hj2 := List.all_eq_true.1 hready j hj
      exact alts f listed a w hd hc hu ho3 h j (by simpa [Tr.heads] using hj2)

def treeB (P : Program) (l : List Oper) (fl : List Nat) (t : Tr) : Bool := Region.noSelect l.toArray && okTr P l fl t (Array.replicate l.length false) false && decide (t.depth ≤ l.length)
theorem wp_region_tree {id : Nat} {l : List Oper} {a : Act} {w : World} (fl : List Nat) (U : Nat → Prop) (t : Tr) (hm : P.follows .mixedOrders = true) (hc : treeB P l fl t = true)
    (h : wpTr P l fl U w.drew Q t a w.drew) : (Code.region id l.toArray true).wp P Q a w := by
  simp only [treeB, Bool.and_eq_true, decide_eq_true_eq] at hc
  obtain ⟨⟨hs, hB⟩, hd⟩ := hc
  have h1 := (tree_any (P := P) (Q := Q) (fl := fl) (U := U) (w0 := w.drew) hs t).1 l.length (Array.replicate l.length false) a w.drew hd (replicate_closed _) (fun _ _ => rfl) hB h
  refine Code.wp_mono (Q := NQ Q) (fun e a w h => ?_) (wp_region_any hm (wpAny_of_B _ _ _ _ (by simpa using h1)))
  cases e <;> first | exact h | exact h.elim

section
variable {l : List Oper} {fl : List Nat} {U : Nat → Prop} {w0 : World} {a : Act} {w : World}
theorem tr_seg {ks : List Nat} {t : Tr} (h : wpList P l.toArray (SegQ (wpTr P l fl U w0 Q t)) (ks.map fun k => l.getD k default) a w) : wpTr P l fl U w0 Q (.seg ks t) a w := h
theorem tr_to {K : Act → World → Prop} (h : K a w) : SegQ K .normal a w := h
theorem tr_alt {k : Nat} {t or : Tr} (h : wpList P l.toArray (SegQ fun a' w' => KeepU U w0 w' ∧ wpTr P l fl U w0 Q t a' w') [l.getD k default] a w) (h2 : wpTr P l fl U w0 Q or a w) : wpTr P l fl U w0 Q (.alt k t or) a w := ⟨h, h2⟩
theorem tr_one {k : Nat} {t : Tr} (h : wpList P l.toArray (SegQ fun a' w' => KeepU U w0 w' ∧ wpTr P l fl U w0 Q t a' w') [l.getD k default] a w) : wpTr P l fl U w0 Q (.alt k t .no) a w := ⟨h, trivial⟩
theorem tr_no : wpTr P l fl U w0 Q .no a w := trivial
theorem tr_end {t : Tr} (h1 : KeepU U w0 w) (h2 : wpTr P l fl U w0 Q t a w) : SegQ (fun a' w' => KeepU U w0 w' ∧ wpTr P l fl U w0 Q t a' w') .normal a w := ⟨h1, h2⟩
theorem tr_fin (h1 : l.all (binOk a) = true) (h2 : ∀ k ∈ fl, FlOk U w0 (l.getD k default) a) (hQ : Q .normal a w) : wpTr P l fl U w0 Q .fin a w := ⟨⟨h1, h2⟩, hQ⟩
end
end tree
end Go.Canon

namespace Go.Canon
open Go
section inround
variable {P : Program} {Q : Exit → Act → World → Prop}

def noDefers (l : List Oper) : Bool := l.all fun o => match o.op with | .defer _ => false | _ => true
theorem noDefers_at {l : List Oper} (h : noDefers l = true) {i : Nat} {o : Oper} (hi : l.toArray[i]? = some o) : ∀ c, o.op ≠ .defer c := by
  intro c hc
  have hm : o ∈ l := List.mem_of_getElem? (by simpa using hi)
  have := List.all_eq_true.1 h o hm
  rw [hc] at this
  cases this
def Wide (F : Fence) : Prop := F = Fence.wide ∨ ∃ l, F = Fence.wide.inRound l
theorem wide_wide : Wide Fence.wide := .inl rfl
theorem wide_round (l : Nat) : Wide (Fence.wide.inRound l) := .inr ⟨l, rfl⟩
theorem Wide.fn {F : Fence} (h : Wide F) (f : FuncId) : F.fn f := by rcases h with rfl | ⟨l, rfl⟩ <;> trivial
theorem Wide.depth {F : Fence} (h : Wide F) : F.depth = none := by rcases h with rfl | ⟨l, rfl⟩ <;> rfl
theorem Wide.calls {F : Fence} (h : Wide F) {n : Nat} {f : FuncId} {args : Array Value} {w : World} {R : Ending → World → Prop} (hc : Calls P f args w R) : CallsIn F n P f args w R := by
  rcases h with rfl | ⟨l, rfl⟩
  · exact callsIn_wide.2 hc
  · exact CallsIn.inRound l (callsIn_wide.2 hc)
theorem Wide.fenced {F : Fence} (h : Wide F) : Machine.fenced P F = Machine.fenced P Fence.wide := by
  rcases h with rfl | ⟨l, rfl⟩
  · rfl
  · exact fenced_inRound P Fence.wide l
theorem Wide.rows {F : Fence} (h : Wide F) {n : Nat} {row : String} {args : Array Value} {w : World} {R : Value → World → Prop} (hc : Rows P row args w R) : RowsIn F n P row args w R := by
  intro c cs _
  obtain ⟨v, w', hr, hs⟩ := hc c cs
  exact ⟨v, w', hr, by rw [h.fenced]; exact stepsIn_wide.2 hs⟩
theorem Wide.sem {F : Fence} (h : Wide F) {o : Oper} (ho : ∀ c, o.op ≠ .defer c) (ρ : Operand → Value) : o.semAt F.round ρ = execOp ρ o := by
  rcases h with rfl | ⟨l, rfl⟩
  · rfl
  · exact Oper.semAt_some l ρ o ho
theorem Wide.oper {F : Fence} (h : Wide F) {n : Nat} {o : Oper} (ho : ∀ c, o.op ≠ .defer c) {a : Act} {w : World} {K : Act → World → Prop} (hw : o.wp P a w K Q) : o.wpIn F n P a w K Q := by
  refine ⟨fun f _ => h.fn f, ?_⟩
  rw [h.sem ho]
  unfold Oper.wp at hw
  generalize (execOp a.eval o).run P w = r at *
  have hd : F.depth.isSome = true → 1 ≤ n := fun h9 => by rw [h.depth] at h9; cases h9
  cases r with
  | ok x w' =>
    cases x <;> simp only [Oper.upon, Oper.uponIn] at hw ⊢ <;> first
      | exact hw
      | exact hw.elim
      | exact ⟨hd, h.calls hw⟩
      | exact ⟨hd, h.rows hw⟩
  | halt x w' => cases x <;> simp only [Oper.upon, Oper.uponIn] at hw ⊢ <;> exact hw
theorem Wide.ops {F : Fence} (h : Wide F) {n : Nat} {l : List Oper} (hl : noDefers l = true) (hq : ¬ LetsOut Q) : ∀ (ord : List Nat) (a : Act) (w : World), wpOps P l.toArray Q ord a w → wpOpsIn F n P l.toArray Q ord a w
  | [], _, _, hw => hw
  | i :: rest, a, w, hw => by
    unfold wpOpsIn
    unfold wpOps at hw
    cases hi : l.toArray[i]? with
    | none =>
      simp only [hi] at hw ⊢
      exact h.ops hl hq rest a w hw
    | some o =>
      simp only [hi] at hw ⊢
      by_cases hwa : Region.wanted o (yielded l.toArray a.tmps) = true
      · rw [if_pos hwa] at hw ⊢
        rcases hw with hw | hw
        case inr => exact absurd hw.2 hq
        exact h.oper (noDefers_at hl hi) (Oper.wp_mono (fun a w h9 => h.ops hl hq rest a w h9) hw)
      · rw [if_neg hwa] at hw ⊢
        exact ⟨fun f _ => h.fn f, h.ops hl hq rest _ w hw⟩
theorem Wide.region_any {F : Fence} (h : Wide F) {n id : Nat} {l : List Oper} {a : Act} {w : World} (hl : noDefers l = true) (hm : P.follows .mixedOrders = true)
    (hw : wpAny P .any l.toArray (NQ Q) l.toArray.size (Array.replicate l.toArray.size false) a w.drew) : (Code.region id l.toArray true).wpIn F n P Q a w := by
  refine Go.Code.wpIn_mono (Q := NQ Q) (fun e a w h => ?_) (wpIn_region_draw fun t => h.ops hl (fun h9 => NQ.out h9) _ _ _ ?_)
  · cases e <;> first | exact h | exact h.elim
  · simp only [Region.schedule, hm, Bool.true_or, if_true]
    exact wpAny_sound l.toArray.size t _ a _ hw
theorem Wide.region_tree {F : Fence} (h9 : Wide F) {n id : Nat} {l : List Oper} {a : Act} {w : World} (fl : List Nat) (U : Nat → Prop) (t : Tr) (hl : noDefers l = true) (hm : P.follows .mixedOrders = true) (hc : treeB P l fl t = true)
    (h : wpTr P l fl U w.drew Q t a w.drew) : (Code.region id l.toArray true).wpIn F n P Q a w := by
  simp only [treeB, Bool.and_eq_true, decide_eq_true_eq] at hc
  obtain ⟨⟨hs, hB⟩, hd⟩ := hc
  have h1 := (tree_any (P := P) (Q := Q) (fl := fl) (U := U) (w0 := w.drew) hs t).1 l.length (Array.replicate l.length false) a w.drew hd (replicate_closed _) (fun _ _ => rfl) hB h
  exact h9.region_any hl hm (wpAny_of_B _ _ _ _ (by simpa using h1))
end inround
end Go.Canon

namespace Go.Canon
open Go
section last
variable {P : Program} {ops : Array Oper} {Q : Exit → Act → World → Prop}
section
variable {l : List Oper} {m : Nat} {fl : List Nat} {U : Nat → Prop} {w0 : World} {a : Act} {w : World}
end
end last
end Go.Canon
