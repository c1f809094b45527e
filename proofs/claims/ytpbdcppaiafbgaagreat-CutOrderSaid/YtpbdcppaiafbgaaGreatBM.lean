/- Walks: ref09's Edge, Has, twice. Walks: ref09's index, pairs. Plain: the triangles at a vertex are connected; marks that spread; no program in sight. Walks: ref09's Pinched. Plain: what ref09 looks at, one after another, is what a surface is; no program in sight. Walks: ref09's All, Surface. The border of a surface: plain. Walks: border.Edges, border.After. Walks: border.behind, the law's Table. Words for maps inside a fence: look and put at the operation. Walks: border.Walk and its iterator. Walks: border.Walk, the law's walk. Walks: slices.AppendSeq, slices.Collect over a border walk. A function that ranges over a function in a loop: its marks are taken one after another as it leaves. Walks: border.Loops. Walks: ref12's Lists. Walks: the law's awake. -/
import Derived.Test.YtpbdcppaiafbgaaGreatTS
import Derived.Test.YtpbdcppaiafbgaaGreatSurf
import Derived.Test.YtpbdcppaiafbgaaGreatVB
import Derived.Test.YtpbdcppaiafbgaaGreatMP
import Derived.Test.YtpbdcppaiafbgaaGreatMap
import Derived.Maps.OwnIn
import Derived.Test.YtpbdcppaiafbgaaGreatTI
namespace Go.Mesh
/-- Has a triangle a vertex? -/
def haB (t : T3) (v : Int) : Bool := t.1 == v || t.2.1 == v || t.2.2 == v
end Go.Mesh
namespace Go.Proofs.YtpbdcppaiafbgaaGreat
open Go Go.RowKit Go.Words Go.Mesh

theorem ret_bool {a b : Bool} (h : a = b) : Ending.returned (.bool a) = Ending.returned (.bool b) := by rw [h]
abbrev triV (t : T3) : Value := .agg #[.int .i64 t.1, .int .i64 t.2.1, .int .i64 t.2.2]

end Go.Proofs.YtpbdcppaiafbgaaGreat

namespace Go.Mesh
end Go.Mesh
namespace Go.Proofs.YtpbdcppaiafbgaaGreat
open Go Go.RowKit Go.Words Go.Mesh

end Go.Proofs.YtpbdcppaiafbgaaGreat

namespace Go.Mesh
/-- Have x and y one of x's first m vertices in common, v aside? -/
def adP (v : Int) (x y : T3) : Nat → Bool
  | 0 => false
  | m + 1 => adP v x y m || (vx x m != v && haB y (vx x m))
def adB (v : Int) (x y : T3) : Bool := adP v x y 3
section
variable (L : List T3) (v : Int)
def ShutB (P : Nat → Prop) : Prop := ∀ i k, i < L.length → k < L.length → P i → adB v (triAt L i) (triAt L k) = true → P k
/-- All triangles are reached from the first. -/
def Cn : Prop := ∀ P : Nat → Prop, P 0 → ShutB L v P → ∀ k, k < L.length → P k
/-- Marks that are at the first, and only where one comes from it. -/
structure Mk (M : List Bool) : Prop where
  len : M.length = L.length
  zero : M[0]? = some true
  sound : ∀ P : Nat → Prop, P 0 → ShutB L v P → ∀ k, M[k]? = some true → P k
def Done (M : List Bool) : Prop := ShutB L v fun k => M[k]? = some true
/-- So far in a round: enough new marks, or none needed, or none at the pairs looked at. -/
def Mid (r i k : Nat) (M : List Bool) : Prop := r + 2 ≤ M.count true ∨ Done L v M ∨
  (r + 1 ≤ M.count true ∧ ∀ i' k', (i' < i ∨ i' = i ∧ k' < k) → i' < L.length → k' < L.length → M[i']? = some true → adB v (triAt L i') (triAt L k') = true → M[k']? = some true)
def Top (r : Nat) (M : List Bool) : Prop := r + 1 ≤ M.count true ∨ Done L v M
end
variable {L : List T3} {v : Int} {M : List Bool} {r i k : Nat}
theorem Mk.start (h : 0 < L.length) : Mk L v ((List.replicate L.length false).set 0 true) where
  len := by simp
  zero := by rw [List.getElem?_set_self (by simpa using h)]
  sound := fun P h0 _ k hk => by
    by_cases hk0 : k = 0
    · subst hk0; exact h0
    · rw [List.getElem?_set_ne (by omega), List.getElem?_replicate] at hk
      split at hk <;> cases hk
theorem Top.start (h : 0 < L.length) : Top L v 0 ((List.replicate L.length false).set 0 true) := by
  left
  have : true ∈ (List.replicate L.length false).set 0 true := List.mem_iff_getElem?.2 ⟨0, by rw [List.getElem?_set_self (by simpa using h)]⟩
  have := List.count_pos_iff.2 this
  omega
theorem Mid.row (h : Mid L v r i L.length M) : Mid L v r (i + 1) 0 M := by
  rcases h with h | h | ⟨h1, h2⟩
  · exact .inl h
  · exact .inr (.inl h)
  · exact .inr (.inr ⟨h1, fun i' k' h3 h4 h5 => h2 i' k' (by omega) h4 h5⟩)
theorem Mid.top (h : Mid L v r L.length 0 M) : Top L v (r + 1) M := by
  rcases h with h | h | ⟨h1, h2⟩
  · exact .inl h
  · exact .inr h
  · exact .inr fun i' k' h4 h5 h6 h7 => h2 i' k' (by omega) h4 h5 h6 h7
/-- A pair that asks for nothing. -/
theorem Mid.pass (h : Mid L v r i k M) (h9 : M[i]? = some true → adB v (triAt L i) (triAt L k) = true → M[k]? = some true) : Mid L v r i (k + 1) M := by
  rcases h with h | h | ⟨h1, h2⟩
  · exact .inl h
  · exact .inr (.inl h)
  · refine .inr (.inr ⟨h1, fun i' k' h3 h4 h5 h6 h7 => ?_⟩)
    by_cases hik : i' = i ∧ k' = k
    · obtain ⟨rfl, rfl⟩ := hik; exact h9 h6 h7
    · exact h2 i' k' (by omega) h4 h5 h6 h7
theorem count_mark (hk : M[k]? = some false) : (M.set k true).count true = M.count true + 1 := by
  obtain ⟨h1, h2⟩ := List.getElem?_eq_some_iff.1 hk
  rw [List.count_set h1, h2]
  simp
/-- A pair that marks. -/
theorem Mid.mark (hm : Mk L v M) (h : Mid L v r i k M) (hi : i < L.length) (hkl : k < L.length) (h1 : M[i]? = some true) (hk : M[k]? = some false) (ha : adB v (triAt L i) (triAt L k) = true) :
    Mk L v (M.set k true) ∧ Mid L v r i (k + 1) (M.set k true) := by
  have hlt := (List.getElem?_eq_some_iff.1 hk).1
  refine ⟨⟨by rw [List.length_set]; exact hm.len, ?_, fun P h0 hs j hj => ?_⟩, ?_⟩
  · by_cases hk0 : k = 0
    · subst hk0; rw [List.getElem?_set_self hlt]
    · rw [List.getElem?_set_ne hk0]; exact hm.zero
  · by_cases hjk : k = j
    · subst hjk
      exact hs i k hi hkl (hm.sound P h0 hs i h1) ha
    · rw [List.getElem?_set_ne hjk] at hj
      exact hm.sound P h0 hs j hj
  · rcases h with h | h | ⟨h2, h3⟩
    · left; rw [count_mark hk]; omega
    · have : M[k]? = some true := h i k hi hkl h1 ha
      rw [hk] at this
      cases this
    · left; rw [count_mark hk]; omega
theorem Top.done (hm : Mk L v M) (h : Top L v L.length M) : (∀ k, k < L.length → M[k]? = some true) ↔ Cn L v := by
  have hd : Done L v M := by
    rcases h with h | h
    · have := List.count_le_length (a := true) (l := M)
      have := hm.len
      omega
    · exact h
  exact ⟨fun h9 P h0 hs k hk => hm.sound P h0 hs k (h9 k hk), fun h9 => h9 _ hm.zero hd⟩

/-! ## Connected is what a surface's vertex is -/
end Go.Mesh

namespace Go.Mesh
end Go.Mesh
namespace Go.Proofs.YtpbdcppaiafbgaaGreat
open Go Go.RowKit Go.Words Go.Mesh

/-- An answer that is true just if something holds. -/
def SaysYes (e : Ending) (good : Prop) : Prop := ∃ b, e = .returned (.bool b) ∧ (b = true ↔ good)
end Go.Proofs.YtpbdcppaiafbgaaGreat

namespace Go.Mesh
def G2 (T : List T3) : Prop := ∀ i, i < T.length → Three (triAt T i)
end Go.Mesh

namespace Go.Proofs.YtpbdcppaiafbgaaGreat
open Go Go.RowKit Go.Words Go.Mesh

end Go.Proofs.YtpbdcppaiafbgaaGreat

namespace Go.Mesh
/-- The corners that face a border edge. -/
def bord (T : List T3) : List Nat := (List.range (3 * T.length)).filter fun c => (opp T c).isNone
def bedges (T : List T3) : List (Int × Int) := (bord T).map (eg T)
section
variable {N : Int} {T : List T3}
theorem mem_bord {c : Nat} : c ∈ bord T ↔ c < 3 * T.length ∧ opp T c = none := by
  unfold bord
  rw [List.mem_filter, List.mem_range, Option.isNone_iff_eq_none]
theorem bord_len (T : List T3) : (bord T).length ≤ 3 * T.length := by
  have := List.length_filter_le (fun c => (opp T c).isNone) (List.range (3 * T.length))
  rwa [List.length_range] at this
theorem mem_bedges {e : Int × Int} : e ∈ bedges T ↔ ∃ c, c < 3 * T.length ∧ opp T c = none ∧ eg T c = e := by
  unfold bedges
  rw [List.mem_map]
  constructor
  · rintro ⟨c, hc, he⟩
    exact ⟨c, (mem_bord.1 hc).1, (mem_bord.1 hc).2, he⟩
  · rintro ⟨c, h1, h2, he⟩
    exact ⟨c, mem_bord.2 ⟨h1, h2⟩, he⟩
end
end Go.Mesh

namespace Go.Mesh
def pvals : List (Int × Int) → List Value
  | [] => []
  | e :: l => .int .i64 e.1 :: .int .i64 e.2 :: pvals l
theorem pvals_snoc : ∀ (l : List (Int × Int)) (e : Int × Int), pvals (l ++ [e]) = pvals l ++ [.int .i64 e.1, .int .i64 e.2]
  | [], _ => rfl
  | x :: l, e => by simp only [List.cons_append, pvals, pvals_snoc l e]
theorem pvals_at : ∀ (l : List (Int × Int)) (i : Nat) (t : Int × Int), l[i]? = some t → ((pvals l).drop (i * 2)).take 2 = [.int .i64 t.1, .int .i64 t.2]
  | [], i, t, h => by simp at h
  | x :: l, 0, t, h => by
    have : x = t := by simpa using h
    subst this
    simp [pvals]
  | x :: l, i + 1, t, h => by
    have h2 := pvals_at l i t (by simpa using h)
    rw [show (i + 1) * 2 = i * 2 + 1 + 1 by omega]
    simp only [pvals, List.drop_succ_cons]
    exact h2
/-- The border edges faced by corners below k. -/
def bpre (T : List T3) (k : Nat) : List (Int × Int) := ((List.range k).filter fun c => (opp T c).isNone).map (eg T)
theorem bpre_all (T : List T3) : bpre T (3 * T.length) = bedges T := rfl
theorem bpre_step (T : List T3) (k : Nat) : bpre T (k + 1) = bpre T k ++ (if opp T k = none then [eg T k] else []) := by
  unfold bpre
  rw [List.range_succ, List.filter_append, List.map_append]
  congr 1
  simp only [List.filter_cons, List.filter_nil, Option.isNone_iff_eq_none]
  split <;> rfl
theorem bpre_len (T : List T3) (k : Nat) : (bpre T k).length ≤ k := by
  unfold bpre
  rw [List.length_map]
  have := List.length_filter_le (fun c => (opp T c).isNone) (List.range k)
  rwa [List.length_range] at this
end Go.Mesh
namespace Go.Proofs.YtpbdcppaiafbgaaGreat
open Go Go.RowKit Go.Words Go.Mesh

theorem sl_own_pairs {w : World} {base : Nat} {v : Value} {l : List (Int × Int)} (h : w.ownsRow base 39 2 v l.length (pvals l)) : Sl 2 RPair w w.heap.size v l :=
  Sl.of_own h fun i a hi => pvals_at l i a hi
theorem info_edge : (Tryz.prog.info? 39).map (fun i => (i.zero, i.size, i.bytes)) = some (some (.agg #[.int .i64 0, .int .i64 0]), 2, 16) := by kernel_rfl
theorem tab_triangles {w : World} {B : Nat} {tv : Value} {N : Int} {T : List T3} (h : Tab w B tv N T) : Calls Tryz.prog 84 #[tv] w fun e w' => e = .returned (.int .i64 T.length) ∧ w' = w := by
  obtain ⟨g, vt, gm, vf, m, F, rfl, h2, _⟩ := h
  exact triangles_calls h2
theorem tab_edge {w : World} {B : Nat} {tv : Value} {N : Int} {T : List T3} (h : Tab w B tv N T) {c : Nat} (hc : c < 3 * T.length) : Calls Tryz.prog 26 #[tv, .int .i64 (c : Int)] w fun e w' => e = .returned (.agg #[.int .i64 (eg T c).1, .int .i64 (eg T c).2]) ∧ Below w.heap.size w w' := by
  obtain ⟨g, vt, gm, vf, m, F, rfl, h2, _⟩ := h
  have := edge_calls h2 (c : Int)
  rw [tEdge_at hc] at this
  exact this

set_option maxRecDepth 20000 in
set_option maxHeartbeats 1000000 in
theorem bedges_calls {w : World} {B : Nat} {tv : Value} {N : Int} {T : List T3} (h : TabN w B tv N T) (hs : Surf N T) :
    Calls Tryz.prog 31 #[tv] w fun e w' => (∃ r, e = .returned r ∧ w'.ownsRow w.heap.size 39 2 r (bedges T).length (pvals (bedges T))) ∧ Below w.heap.size w w' := by
  rcases h with h | ⟨rfl, rfl, rfl, _⟩
  case inr =>
    go_enter Tryz.func31, Tryz.ntmps31
    go_wp2_with fail
    go_ret
    exact ⟨⟨_, rfl, World.ownsRow_nil _ _ _ _⟩, Below.refl _ _⟩
  case inl =>
    have hle := h.le
    have htm := hs.tmax
    obtain ⟨g, rfl⟩ : ∃ g, tv = .pointer (some ⟨g, 0, none⟩) := by
      obtain ⟨g, _, _, _, _, _, rfl, _⟩ := h
      exact ⟨_, rfl⟩
    have htr := tab_triangles h
    have hop := fun wz (hz : Tab wz B (.pointer (some ⟨g, 0, none⟩)) N T) c (hc : c < 3 * T.length) => tab_opp (.inl hz) hs hc
    have hed := fun wz (hz : Tab wz B (.pointer (some ⟨g, 0, none⟩)) N T) c (hc : c < 3 * T.length) => tab_edge hz hc
    have hfin := bpre_all T
    have Hh := Lib.hid h; clear h; have Hhs := Lib.hid hs; clear hs; have Hhtr := Lib.hid htr; clear htr; have Hhop := Lib.hid hop; clear hop; have Hhed := Lib.hid hed; clear hed; have Hhfin := Lib.hid hfin; clear hfin
    go_enter Tryz.func31, Tryz.ntmps31
    go_wp2_with fail
    refine Hhtr.out.mono ?_
    rintro e w ⟨rfl, rfl⟩
    go_wp2_with fail
    go_loopw [3, 10] (fun l i wr => ∃ k : Nat, k ≤ 3 * T.length ∧ i = .int .i64 k ∧ wr.ownsRow w.heap.size 39 2 l (bpre T k).length (pvals (bpre T k)) ∧ Below w.heap.size w wr) (fun _ i _ => 3 * T.length - (intOf i).toNat)
    case atStart => exact ⟨0, by omega, rfl, World.ownsRow_nil _ _ _ _, Below.refl _ _⟩
    case round =>
      obtain ⟨k, hk, rfl, hown, hbel⟩ := hrel
      have hz := hbel.size
      by_cases hkl : k < 3 * T.length
      · have htab := Hh.out.below hbel hle
        have ho := Hhop.out wr htab k hkl
        have hst := bpre_step T k
        have hll := bpre_len T k
        generalize bpre T k = L at *
        cases hoc : opp T k with
        | some d =>
          rw [hoc] at ho hst
          rw [if_neg (by simp), List.append_nil] at hst
          have hd0 : ¬ (oi (some d) < 0) := by simp [oi]
          generalize oi (some d) = x at *
          have Hhown := Lib.hid hown; clear hown; have Hhtab := Lib.hid htab; clear htab; have Hho := Lib.hid ho; clear ho; have Hhst := Lib.hid hst; clear hst; have Hhoc := Lib.hid hoc; clear hoc
          go_wp2_with fail
          refine Hho.out.mono ?_
          rintro e w1 ⟨rfl, hb1⟩
          have hown1 := own_below Hhown.out hb1 (Nat.le_refl _)
          have Hhown1 := Lib.hid hown1; clear hown1
          go_wp2_with fail
          exact ⟨⟨k + 1, by omega, by simp, by rw [Hhst.out]; exact Hhown1.out, hbel.trans (hb1.mono hz)⟩, by simp [intOf]; omega⟩
        | none =>
          rw [hoc] at ho hst
          rw [if_pos rfl] at hst
          have hd0 : oi none < 0 := by simp [oi]
          generalize oi none = x at *
          have Hhown := Lib.hid hown; clear hown; have Hhtab := Lib.hid htab; clear htab; have Hho := Lib.hid ho; clear ho; have Hhst := Lib.hid hst; clear hst; have Hhoc := Lib.hid hoc; clear hoc
          go_wp2_with fail
          refine Hho.out.mono ?_
          rintro e w1 ⟨rfl, hb1⟩
          have hown1 := own_below Hhown.out hb1 (Nat.le_refl _)
          have hbel1 := hbel.trans (hb1.mono hz)
          have hz1 := hbel1.size
          have he := Hhed.out w1 (Hh.out.below hbel1 hle) k hkl
          have hst := Hhst.out
          generalize eg T k = ed at *
          obtain ⟨x1, x2⟩ := ed
          simp only [] at he
          have Hhown1 := Lib.hid hown1; clear hown1; have Hhe := Lib.hid he; clear he; have Hhst := Lib.hid hst; clear hst
          go_wp2_with fail
          refine Hhe.out.mono ?_
          rintro e w2 ⟨rfl, hb2⟩
          have hown2 := own_below Hhown1.out hb2 (Nat.le_refl _)
          have hbel2 := hbel1.trans (hb2.mono hz1)
          have hz2 := hbel2.size
          have Hhown2 := Lib.hid hown2; clear hown2
          go_wp2_with (at_builtin; refine append_block _ rfl (.tmp 17) (.tmp 21) 25 rfl w.heap.size info_edge Tryz.underlying25 rfl (by decide) _ L.length (pvals L) rfl (Hhown2.out.alloc _) w2.heap.size [.int .i64 x1, .int .i64 x2] rfl (Bk.new _ _ _) rfl (by simp [Value.oneCell']) (by omega) (by omega) (by simp; omega) ?_; intro v1 w5 hown5 hb5 _ _; have Hhown5 := Lib.hid hown5; clear hown5)
          exact ⟨⟨k + 1, by omega, by simp, by rw [Hhst.out, pvals_snoc, List.length_append]; exact Hhown5.out, (hbel2.alloc hz2 _).trans hb5⟩, by simp [intOf]; omega⟩
      · obtain rfl : k = 3 * T.length := by omega
        rw [Hhfin.out] at hown
        have Hhown := Lib.hid hown; clear hown
        go_wp2_with fail
        go_ret
        exact ⟨⟨_, rfl, Hhown.out⟩, hbel⟩

end Go.Proofs.YtpbdcppaiafbgaaGreat

namespace Go.Mesh
end Go.Mesh
namespace Go.Proofs.YtpbdcppaiafbgaaGreat
open Go Go.RowKit Go.Words Go.Mesh

end Go.Proofs.YtpbdcppaiafbgaaGreat

namespace Go.Words
open Go Go.RowKit Go.Maps Go.MapKept Go.ChangeMaps
section
variable {F : Fence} {nF : Nat} {P : Program} (w : World) {ops : Array Oper} {rest : List Oper} {o : Oper} {a : Act} {Q : Exit → Act → World → Prop}
variable {κ α : Type} [DecidableEq κ] {enc : κ → Value} {ok : κ → Prop} {ev : α → Value}

end
end Go.Words

namespace Go.Mesh
section
variable {N : Int} {T : List T3}
end
end Go.Mesh
namespace Go.Proofs.YtpbdcppaiafbgaaGreat
open Go Go.RowKit Go.Words Go.Mesh
attribute [local go_sem] Oper.semAt_some

end Go.Proofs.YtpbdcppaiafbgaaGreat

namespace Go.Proofs.YtpbdcppaiafbgaaGreat
open Go Go.RowKit Go.Words Go.Mesh
attribute [local go_sem] Oper.semAt_some

end Go.Proofs.YtpbdcppaiafbgaaGreat

namespace Go.Proofs.YtpbdcppaiafbgaaGreat
open Go Go.RowKit Go.Words Go.Mesh
attribute [local go_sem] Oper.semAt_some

end Go.Proofs.YtpbdcppaiafbgaaGreat

namespace Go.Words
open Go Go.RowKit
variable {F : Fence} {n : Nat} {P : Program}

def mark (D : Nat) : Deferred := { target := .collected D, args := #[] }
theorem mark_inj : ∀ (A B : List Nat), A.map mark = B.map mark → A = B
  | [], [], _ => rfl
  | [], b :: B, h => by simp at h
  | a :: A, [], h => by simp at h
  | a :: A, b :: B, h => by
    simp only [List.map_cons, List.cons.injEq] at h
    obtain ⟨h8, h9⟩ := h
    have : a = b := by
      unfold mark at h8
      injection h8 with h8
      injection h8
    rw [this, mark_inj A B h9]
/-- The marks that loops over functions have left. -/
def Marks (w : World) (base : Nat) (ds : List Deferred) : Prop := ∃ Ds : List Nat, ds = Ds.map mark ∧ Ds.Nodup ∧ ∀ D ∈ Ds, base ≤ D ∧ w.heap[D]? = some (.deferred (some []))
theorem Marks.nil (w : World) (base : Nat) : Marks w base [] := ⟨[], rfl, List.nodup_nil, fun _ h => by cases h⟩
theorem Marks.keep {w w' : World} {base : Nat} {ds : List Deferred} (h : Marks w base ds) (hk : ∀ k, base ≤ k → w.heap[k]? = some (.deferred (some [])) → w'.heap[k]? = some (.deferred (some []))) : Marks w' base ds := by
  obtain ⟨Ds, h1, h2, h3⟩ := h
  exact ⟨Ds, h1, h2, fun D hD => ⟨(h3 D hD).1, hk D (h3 D hD).1 (h3 D hD).2⟩⟩
theorem Marks.below {w w' : World} {base : Nat} {ds : List Deferred} (h : Marks w base ds) (hb : Below w.heap.size w w') : Marks w' base ds :=
  h.keep fun k _ hk => (hb.block k (Array.getElem?_eq_some_iff.1 hk).1).trans hk
theorem Marks.grown {w w' : World} {base : Nat} {ds : List Deferred} {row : Option Nat} (h : Marks w base ds) (hg : w.grownBy w' row) (hr : ∀ r, row = some r → w.heap[r]? ≠ some (.deferred (some []))) : Marks w' base ds :=
  h.keep fun k _ hk => (hg.block k (Array.getElem?_eq_some_iff.1 hk).1 fun e => hr k e.symm hk).trans hk
theorem Marks.cons {w : World} {base D : Nat} {ds : List Deferred} (h : Marks w base ds) (hD : base ≤ D) (hK : w.heap[D]? = some (.deferred (some []))) (hnew : ∀ Ds : List Nat, ds = Ds.map mark → D ∉ Ds) : Marks w base (mark D :: ds) := by
  obtain ⟨Ds, rfl, h2, h3⟩ := h
  refine ⟨D :: Ds, rfl, List.nodup_cons.2 ⟨hnew Ds rfl, h2⟩, fun E hE => ?_⟩
  rcases List.mem_cons.1 hE with rfl | hE
  · exact ⟨hD, hK⟩
  · exact h3 E hE
/-- Marks that were there ahead of a block are not that block's. -/
theorem Marks.fresh {w : World} {base D : Nat} {ds : List Deferred} (h : Marks w base ds) (hD : w.heap.size ≤ D) : ∀ Ds : List Nat, ds = Ds.map mark → D ∉ Ds := by
  intro Ds e hm
  obtain ⟨Es, h1, _, h3⟩ := h
  obtain rfl : Es = Ds := mark_inj Es Ds (h1.symm.trans e)
  have := (Array.getElem?_eq_some_iff.1 (h3 D hm).2).1
  omega
end Go.Words
namespace Go.Mesh
end Go.Mesh

namespace Go.Proofs.YtpbdcppaiafbgaaGreat
open Go Go.RowKit Go.Words Go.Mesh
attribute [local go_sem] Oper.semAt_some

end Go.Proofs.YtpbdcppaiafbgaaGreat

namespace Go.Proofs.YtpbdcppaiafbgaaGreat
open Go Go.RowKit Go.Words Go.Mesh

end Go.Proofs.YtpbdcppaiafbgaaGreat

namespace Go.Mesh
end Go.Mesh
namespace Go.Proofs.YtpbdcppaiafbgaaGreat
open Go Go.RowKit Go.Words Go.Mesh

end Go.Proofs.YtpbdcppaiafbgaaGreat
