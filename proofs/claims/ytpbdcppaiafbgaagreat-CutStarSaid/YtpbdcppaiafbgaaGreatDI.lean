/- A row that has an element has an address. Walks: slices.Index, Contains; bay's farther, Tris. Walks: bay's search, the meeting of one triangle. Walks: slices.Repeat of one number. Walks: bay's search. Walks: bay's Seeds. Walks: bay's Grow. Walks: the law's table and its example. -/
import Derived.Test.YtpbdcppaiafbgaaGreatTS
import Derived.Test.YtpbdcppaiafbgaaGreatDX
import Derived.RangeFuncBox
import Derived.Laws.CopyOwn
import Derived.Shelf.Abstract
import Derived.RangeFuncNested
import Derived.Shelf.Bits.Mul64
namespace Go.Proofs.YtpbdcppaiafbgaaGreat
open Go Go.RowKit Go.Words Go.Mesh
theorem own_addrD {w : World} {base : Nat} {e : TypeId} {size n cap : Nat} {A : Option Addr} {xs : List Value} (h : w.ownsRow base e size (.slice A n cap) n xs) (hn : 0 < n) : ∃ g, A = some ⟨g, 0, none⟩ := by
  obtain ⟨m, rfl⟩ : ∃ m, n = m + 1 := ⟨n - 1, by omega⟩
  obtain ⟨g', c', h8⟩ := ownsRow_succ h
  injection h8 with h8
  exact ⟨_, h8⟩
end Go.Proofs.YtpbdcppaiafbgaaGreat

namespace Go.Mesh
end Go.Mesh
namespace Go.Proofs.YtpbdcppaiafbgaaGreat
open Go Go.RowKit Go.Words Go.Mesh

end Go.Proofs.YtpbdcppaiafbgaaGreat

namespace Go.Mesh
def rSt (st : List Int) (x : Nat) (step : Int) : List Int := if st.getD x 0 < 0 then st.set x step else st
def rNr (st nr : List Int) (x : Nat) (step seed : Int) : List Int := if st.getD x 0 < 0 then nr.set x seed else if st.getD x 0 = step then nr.set x (min (nr.getD x 0) seed) else nr
def rRow (st : List Int) (row : List Nat) (x : Nat) : List Nat := if st.getD x 0 < 0 then row ++ [x] else row
end Go.Mesh
namespace Go.Proofs.YtpbdcppaiafbgaaGreat
open Go Go.RowKit Go.Words Go.Mesh

/-- The memory of a search: the boxes of its three lists, and the lists. -/
structure FM (w : World) (b0 gs gn b7 n : Nat) (st nr : List Int) (row : List Nat) : Prop where
  b4 : Boxed w b0 28 (.slice (some ⟨gs, 0, none⟩) n n)
  b5 : Boxed w (b0 + 1) 28 (.slice (some ⟨gn, 0, none⟩) n n)
  s : Bk w gs 3 (ivals st)
  r : Bk w gn 3 (ivals nr)
  row : ∃ rv, Boxed w b7 28 rv ∧ w.ownsRow (b7 + 1) 3 1 rv row.length (nvals row)
  o1 : b0 + 1 < gs
  o2 : gs < gn
  o3 : gn < b7
  o4 : b7 < w.heap.size
theorem FM.below {w w' : World} {b0 gs gn b7 n : Nat} {st nr : List Int} {row : List Nat} (h : FM w b0 gs gn b7 n st nr row) (hb : Below w.heap.size w w') : FM w' b0 gs gn b7 n st nr row := by
  have h1 := h.o1; have h2 := h.o2; have h3 := h.o3; have h4 := h.o4
  obtain ⟨rv, r1, r2⟩ := h.row
  exact ⟨(hb.block _ (by omega)).trans h.b4, (hb.block _ (by omega)).trans h.b5, h.s.below hb (by omega), h.r.below hb (by omega), ⟨rv, (hb.block _ h4).trans r1, own_below r2 hb (Nat.le_refl _)⟩, h1, h2, h3, by have := hb.size; omega⟩
theorem ivals_at {l : List Int} {i : Nat} {x : Int} (h : l[i]? = some x) : (ivals l)[i]? = some (.int .i64 x) := by unfold ivals; rw [List.getElem?_map, h]; rfl
theorem ivals_set (l : List Int) (i : Nat) (x : Int) : (ivals l).set i (.int .i64 x) = ivals (l.set i x) := by unfold ivals; rw [List.map_set]
theorem FM.drew {w : World} {b0 gs gn b7 n : Nat} {st nr : List Int} {row : List Nat} (h : FM w b0 gs gn b7 n st nr row) : FM w.drew b0 gs gn b7 n st nr row := h.below (Below.refl _ _).drew
end Go.Proofs.YtpbdcppaiafbgaaGreat

namespace Go.Proofs.YtpbdcppaiafbgaaGreat
open Go Go.RowKit Go.Words Go.Mesh

end Go.Proofs.YtpbdcppaiafbgaaGreat

namespace Go.Mesh
section
variable {N : Int} {T : List T3} {S : List Nat} {st nr : List Int} {row : List Nat} {k i : Nat}
theorem getD_of {l : List Int} {x : Nat} {d : Int} (h : l[x]? = some d) : l.getD x 0 = d := by rw [List.getD_eq_getElem?_getD, h]; rfl
theorem Sk.reach (h : Sk T S st nr row k) {s : Nat} (hs : s < T.length) (hk : S[k]? = some s) : Sk T S (rSt st s 0) (rNr st nr s 0 (k : Int)) (rRow st row s) (k + 1) := by
  unfold rSt rNr rRow
  by_cases hm : s ∈ row
  · have h0 := h.zero s hm
    obtain ⟨d, n, h1, h2, _⟩ := h.bq.inn s hm
    have h9 : ¬ (0 : Int) < 0 := by omega
    rw [getD_of h0, if_neg h9, if_neg h9, if_neg h9, if_pos rfl, getD_of h2]
    exact h.tie hk hm h2
  · obtain ⟨h1, _⟩ := h.bq.out s hs hm
    rw [getD_of h1, if_pos (by omega), if_pos (by omega), if_pos (by omega)]
    exact h.meet hs hk hm
theorem Qi.reach (hs : Surf N T) (h : Qi T S st nr row i k) {x y d m : Nat} (hk : k < 3) (hx : row[i]? = some x) (hn : nb T x k = some y) (hd : st[x]? = some (d : Int)) (hm : nr[x]? = some (m : Int)) :
    Qi T S (rSt st y ((d : Int) + 1)) (rNr st nr y ((d : Int) + 1) (m : Int)) (rRow st row y) i (k + 1) := by
  unfold rSt rNr rRow
  have hyl := (hs.nb_rng hk hn).2
  by_cases hy : y ∈ row
  · obtain ⟨e, n, h1, h2, _⟩ := h.bq.inn y hy
    have ht := h.top x y d e hx hy hd h1
    have h0 : ¬ (e : Int) < 0 := by omega
    rw [getD_of h1, if_neg h0, if_neg h0, if_neg h0, getD_of h2]
    by_cases he : (e : Int) = d + 1
    · rw [if_pos he]
      exact h.tie hs hk hx hn hd hm (by rw [h1, he]) h2 hy
    · rw [if_neg he]
      exact h.skip hx hn hd hm h1 hy (by omega)
  · obtain ⟨h1, _⟩ := h.bq.out y hyl hy
    rw [getD_of h1, if_pos (by omega), if_pos (by omega), if_pos (by omega)]
    exact h.meet hs hk hx hn hd hm hy
end
end Go.Mesh
namespace Go.Words
open Go Go.RowKit
end Go.Words
namespace Go.Proofs.YtpbdcppaiafbgaaGreat
open Go Go.RowKit Go.Words Go.Mesh

end Go.Proofs.YtpbdcppaiafbgaaGreat

namespace Go.Mesh
section
variable {N : Int} {T : List T3}
end
end Go.Mesh
namespace Go.Proofs.YtpbdcppaiafbgaaGreat
open Go Go.RowKit Go.Words Go.Mesh

theorem tab_tris {w : World} {B : Nat} {tv : Value} {N : Int} {T : List T3} (h : Tab w B tv N T) : Calls Tryz.prog 84 #[tv] w fun e w' => e = .returned (.int .i64 T.length) ∧ w' = w := by
  obtain ⟨g, vt, gm, vf, m, F, rfl, htab, _⟩ := h
  exact triangles_calls htab
end Go.Proofs.YtpbdcppaiafbgaaGreat

namespace Go.Mesh
end Go.Mesh
namespace Go.Proofs.YtpbdcppaiafbgaaGreat
open Go Go.RowKit Go.Words Go.Mesh

end Go.Proofs.YtpbdcppaiafbgaaGreat

namespace Go.Mesh
end Go.Mesh
namespace Go.Proofs.YtpbdcppaiafbgaaGreat
open Go Go.RowKit Go.Words Go.Mesh

end Go.Proofs.YtpbdcppaiafbgaaGreat
