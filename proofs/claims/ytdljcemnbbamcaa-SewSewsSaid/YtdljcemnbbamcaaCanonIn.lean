/- Regions in a round of a loop over a function: walked as everywhere. -/
import Derived.RangeFuncCalls
import Derived.TacticsIn
import Derived.Test.YtdljcemnbbamcaaTree
namespace Go.Canon
open Go
section inround
variable {P : Program} {Q : Exit → Act → World → Prop}

def noDefers (l : List Oper) : Bool := l.all fun o => match o.op with | .defer _ => false | _ => true
theorem noDefers_at {l : List Oper} (h : noDefers l = true) {i : Nat} {o : Oper} (hi : l.toArray[i]? = some o) : ∀ c, o.op ≠ .defer c := by
  intro c hc
  have hm : o ∈ l := List.mem_of_getElem? (by simpa using hi)
  have := List.all_eq_true.1 h o hm
  rw [hc] at this
  cases this
/-- The fence that lets all by, in a round or in none. -/
def Wide (F : Fence) : Prop := F = Fence.wide ∨ ∃ l, F = Fence.wide.inRound l
theorem wide_wide : Wide Fence.wide := .inl rfl
theorem wide_round (l : Nat) : Wide (Fence.wide.inRound l) := .inr ⟨l, rfl⟩
theorem Wide.fn {F : Fence} (h : Wide F) (f : FuncId) : F.fn f := by rcases h with rfl | ⟨l, rfl⟩ <;> trivial
theorem Wide.depth {F : Fence} (h : Wide F) : F.depth = none := by rcases h with rfl | ⟨l, rfl⟩ <;> rfl
theorem Wide.calls {F : Fence} (h : Wide F) {n : Nat} {f : FuncId} {args : Array Value} {w : World} {R : Ending → World → Prop} (hc : Calls P f args w R) : CallsIn F n P f args w R := by
  rcases h with rfl | ⟨l, rfl⟩
  · exact callsIn_wide.2 hc
  · exact CallsIn.inRound l (callsIn_wide.2 hc)
theorem Wide.fenced {F : Fence} (h : Wide F) : Machine.fenced P F = Machine.fenced P Fence.wide := by
  rcases h with rfl | ⟨l, rfl⟩
  · rfl
  · exact fenced_inRound P Fence.wide l
theorem Wide.rows {F : Fence} (h : Wide F) {n : Nat} {row : String} {args : Array Value} {w : World} {R : Value → World → Prop} (hc : Rows P row args w R) : RowsIn F n P row args w R := by
  intro c cs _
  obtain ⟨v, w', hr, hs⟩ := hc c cs
  exact ⟨v, w', hr, by rw [h.fenced]; exact stepsIn_wide.2 hs⟩
theorem Wide.sem {F : Fence} (h : Wide F) {o : Oper} (ho : ∀ c, o.op ≠ .defer c) (ρ : Operand → Value) : o.semAt F.round ρ = execOp ρ o := by
  rcases h with rfl | ⟨l, rfl⟩
  · rfl
  · exact Oper.semAt_some l ρ o ho
theorem Wide.oper {F : Fence} (h : Wide F) {n : Nat} {o : Oper} (ho : ∀ c, o.op ≠ .defer c) {a : Act} {w : World} {K : Act → World → Prop} (hw : o.wp P a w K Q) : o.wpIn F n P a w K Q := by
  refine ⟨fun f _ => h.fn f, ?_⟩
  rw [h.sem ho]
  unfold Oper.wp at hw
  generalize (execOp a.eval o).run P w = r at *
  have hd : F.depth.isSome = true → 1 ≤ n := fun h9 => by rw [h.depth] at h9; cases h9
  cases r with
  | ok x w' =>
    cases x <;> simp only [Oper.upon, Oper.uponIn] at hw ⊢ <;> first
      | exact hw
      | exact hw.elim
      | exact ⟨hd, h.calls hw⟩
      | exact ⟨hd, h.rows hw⟩
  | halt x w' => cases x <;> simp only [Oper.upon, Oper.uponIn] at hw ⊢ <;> exact hw
theorem Wide.ops {F : Fence} (h : Wide F) {n : Nat} {l : List Oper} (hl : noDefers l = true) (hq : ¬ LetsOut Q) : ∀ (ord : List Nat) (a : Act) (w : World), wpOps P l.toArray Q ord a w → wpOpsIn F n P l.toArray Q ord a w
  | [], _, _, hw => hw
  | i :: rest, a, w, hw => by
    unfold wpOpsIn
    unfold wpOps at hw
    cases hi : l.toArray[i]? with
    | none =>
      simp only [hi] at hw ⊢
      exact h.ops hl hq rest a w hw
    | some o =>
      simp only [hi] at hw ⊢
      by_cases hwa : Region.wanted o (yielded l.toArray a.tmps) = true
      · rw [if_pos hwa] at hw ⊢
        rcases hw with hw | hw
        case inr => exact absurd hw.2 hq
        exact h.oper (noDefers_at hl hi) (Oper.wp_mono (fun a w h9 => h.ops hl hq rest a w h9) hw)
      · rw [if_neg hwa] at hw ⊢
        exact ⟨fun f _ => h.fn f, h.ops hl hq rest _ w hw⟩
theorem Wide.region_any {F : Fence} (h : Wide F) {n id : Nat} {l : List Oper} {a : Act} {w : World} (hl : noDefers l = true) (hm : P.follows .mixedOrders = true)
    (hw : wpAny P .any l.toArray (NQ Q) l.toArray.size (Array.replicate l.toArray.size false) a w.drew) : (Code.region id l.toArray true).wpIn F n P Q a w := by
  refine Go.Code.wpIn_mono (Q := NQ Q) (fun e a w h => ?_) (wpIn_region_draw fun t => h.ops hl (fun h9 => NQ.out h9) _ _ _ ?_)
  · cases e <;> first | exact h | exact h.elim
  · simp only [Region.schedule, hm, Bool.true_or, if_true]
    exact wpAny_sound l.toArray.size t _ a _ hw
/-- A region that draws nothing. -/
theorem Wide.region_list {F : Fence} (h : Wide F) {n id : Nat} {l : List Oper} {a : Act} {w : World} (hl : noDefers l = true) (hw : wpList P l.toArray (NQ Q) l a w) : (Code.region id l.toArray false).wpIn F n P Q a w := by
  refine Go.Code.wpIn_mono (Q := NQ Q) (fun e a w h => ?_) (wpIn_region (h.ops hl (fun h9 => NQ.out h9) _ _ _ ?_))
  · cases e <;> first | exact h | exact h.elim
  · have := wpOps_eq_wpList (P := P) (ops := l.toArray) (Q := NQ Q) l 0 (by simp)
    rw [List.range_eq_range', show l.toArray.size = l.length from by simp, this]
    exact hw
theorem Wide.region_tree {F : Fence} (h9 : Wide F) {n id : Nat} {l : List Oper} {a : Act} {w : World} (fl : List Nat) (U : Nat → Prop) (t : Tr) (hl : noDefers l = true) (hm : P.follows .mixedOrders = true) (hc : treeB P l fl t = true)
    (h : wpTr P l fl U w.drew Q t a w.drew) : (Code.region id l.toArray true).wpIn F n P Q a w := by
  simp only [treeB, Bool.and_eq_true, decide_eq_true_eq] at hc
  obtain ⟨⟨hs, hB⟩, hd⟩ := hc
  have h1 := (tree_any (P := P) (Q := Q) (fl := fl) (U := U) (w0 := w.drew) hs t).1 l.length (Array.replicate l.length false) a w.drew hd (replicate_closed _) (fun _ _ => rfl) hB h
  exact h9.region_any hl hm (wpAny_of_B _ _ _ _ (by simpa using h1))
theorem Wide.region_canon {F : Fence} (h9 : Wide F) {n id : Nat} {l : List Oper} {a : Act} {w : World} (ord : List Nat) (hl : noDefers l = true) (hm : P.follows .mixedOrders = true) (hc : checkB P l ord = true)
    (h : wpList P l.toArray (ChkQ l Q) (ord.map fun k => l.getD k default) a w.drew) : (Code.region id l.toArray true).wpIn F n P Q a w := by
  simp only [checkB, Bool.and_eq_true, beq_iff_eq] at hc
  obtain ⟨⟨⟨⟨hs, hB⟩, hS⟩, hlt⟩, hlen⟩ := hc
  have hlt' : ∀ k ∈ ord, k < l.length := fun k hk => by simpa using List.all_eq_true.1 hlt k hk
  have h1 := canon_any (P := P) (Q := Q) (U := noKeep) (w0 := w.drew) hs ord (Array.replicate l.length false) a w.drew (replicate_closed _) (fun _ hb => hb.elim) hB (cWalk_of_list ord a _ hlt' hS h)
  rw [hlen] at h1
  exact h9.region_any hl hm (wpAny_of_B _ _ _ _ (by simpa using h1))
theorem Wide.region_text {F : Fence} (h9 : Wide F) {n id : Nat} {l : List Oper} {a : Act} {w : World} (hl : noDefers l = true) (hm : P.follows .mixedOrders = true) (hc : checkB P l (List.range l.length) = true)
    (h : wpList P l.toArray (ChkQ l Q) l a w.drew) : (Code.region id l.toArray true).wpIn F n P Q a w := by
  refine h9.region_canon (List.range l.length) hl hm hc ?_
  have : (List.range l.length).map (fun k => l.getD k default) = l := by
    apply List.ext_getElem
    · simp
    · intro n h1 h2
      simp [List.getD, h2]
  rw [this]
  exact h
end inround
end Go.Canon
