/- Arguments that are triangles. Arguments: lists of numbers, and lists of pairs of edges, each number in its bounds. Arguments: lists of edges, each number in its bounds; lists of bytes. -/
import Derived.Test.YtpbdcppaiafbgaaGreatRows
import Derived.Test.YtpbdcppaiafbgaaGreatBridge
import Derived.Test.YtpbdcppaiafbgaaGreatTS
import Derived.OpenShut
import Derived.Test.YtpbdcppaiafbgaaGreatFE
namespace Go.Words
open Go Go.RowKit Go.Deep Go.ChangeShapes Go.WideShapes Go.Joins Go.Proofs.YtpbdcppaiafbgaaGreat Go.Mesh
section
variable {H : Type} {enc : TypeId × Value → H} {P : Program} {w : World} {base : Nat} {spare : Nat → Bool} {held : Bool}
theorem tris_of {t e q : TypeId} {fuel : Nat} {cs : List Value} {x : DataW H × List MemPlace} (ht : P.underlying t = some (.slice e)) (hc : P.cellsOf e = 3) (he : P.underlying e = some (.array 3 q)) (hq : P.underlying q = some (.int .i64)) (hcq : P.cellsOf q = 1)
    (h : DataW.trod enc P w base spare held fuel t cs = some x) : ∃ v l, cs = [v] ∧ Sl 3 RTri w w.heap.size v l := by
  rcases open_slice ht h with ⟨rfl, _⟩ | ⟨a, len, cap, m, n, D, Pl, rfl, _, hl, _, hm, _, hx⟩
  · exact ⟨_, [], rfl, Sl.nil _ _⟩
  · have hlm : len ≤ m := by rw [hm]; split <;> omega
    obtain ⟨l, hsl⟩ := Sl.mk' (R := RTri) (w := w) (a := a) (sz := 3) (by omega) hl fun i hi => by
      obtain ⟨cs', hc', ht'⟩ := hx i (by omega)
      rw [hc] at hc'
      obtain ⟨xs, m', _, _, _, hxl, hf⟩ := DataW.trod_array he ht'
      obtain ⟨_, hcl, hat⟩ := World.cells?_some hc'
      match cs', hcl with
      | [u0, u1, u2], _ =>
        have g0 := hf 0 (by omega)
        have g1 := hf 1 (by omega)
        have g2 := hf 2 (by omega)
        rw [hcq] at g0 g1 g2
        rw [List.getElem?_eq_getElem (by omega)] at g0 g1 g2
        obtain ⟨k0, rfl⟩ := int_of_trod hq g0
        obtain ⟨k1, rfl⟩ := int_of_trod hq g1
        obtain ⟨k2, rfl⟩ := int_of_trod hq g2
        refine ⟨(k0, k1, k2), _, rfl, rfl, fun j u hu => ?_⟩
        have hjl : j < 3 := (List.getElem?_eq_some_iff.1 hu).1
        have := hat j hjl
        rw [← Go.Deep.add_add, this]
        simpa using hu
    exact ⟨_, l, rfl, hsl⟩
theorem soup_of {t e q : TypeId} {f0 f1 : Field} {r : Reach} {b0 : Nat} {v : Value} {d : DataW H} {ps : List MemPlace} (ht : P.underlying t = some (.struct #[f0, f1])) (hct : P.cellsOf t = 2) (hone : oneCellFields P #[f0, f1] = true)
    (h0 : P.underlying f0.type = some (.int .i64)) (h1 : P.underlying f1.type = some (.slice e)) (hc : P.cellsOf e = 3) (he : P.underlying e = some (.array 3 q)) (hq : P.underlying q = some (.int .i64)) (hcq : P.cellsOf q = 1)
    (hval : Value.okWide P w r b0 t v) (hd : DataW.Trod enc P w base spare held t v d ps) : ∃ N sv T, v = .agg #[.int .i64 N, sv] ∧ I64 N ∧ Sl 3 RTri w w.heap.size sv T := by
  obtain ⟨cs, rfl, hsz⟩ := okWide_struct ht hval
  obtain ⟨fuel, hf⟩ := hd
  rw [hct] at hsz
  obtain ⟨xs, n, _, _, hlen, hxl, hff⟩ := DataW.trod_struct ht hf
  obtain ⟨l, rfl⟩ : ∃ l : List Value, cs = l.toArray := ⟨cs.toList, by simp⟩
  have hll : l.length = 2 := by simpa using hsz
  match l, hll with
  | [u0, u1], _ =>
    have hcells : (Value.cells (.agg [u0, u1].toArray)).toList = [u0, u1] := rfl
    rw [hcells] at hff
    have g0 := hff 0 f0 rfl
    have g1 := hff 1 f1 rfl
    obtain ⟨o0, k0⟩ := hone_of hone 0 f0 rfl
    obtain ⟨o1, k1⟩ := hone_of hone 1 f1 rfl
    rw [o0, k0] at g0
    rw [o1, k1] at g1
    have y0 : xs[0]? = some (xs[0]'(by rw [hxl]; simp)) := List.getElem?_eq_getElem _
    have y1 : xs[1]? = some (xs[1]'(by rw [hxl]; simp)) := List.getElem?_eq_getElem _
    rw [y0] at g0
    rw [y1] at g1
    obtain ⟨N, hN, _, hwf⟩ := DataW.trod_int h0 g0
    obtain ⟨sv, T, hsv, hT⟩ := tris_of h1 hc he hq hcq g1
    have e0 : u0 = .int .i64 N := by simpa using hN
    have e1 : u1 = sv := by simpa using hsv
    subst e0; subst e1
    exact ⟨N, u1, T, rfl, bounds_i64 hwf, hT⟩
end
end Go.Words
namespace Go.Proofs.YtpbdcppaiafbgaaGreat
open Go.ChangeShapes Go.WideShapes Go.ChangeAt Go.RowKit Go.Words Go.Deep Go.Joins Go.Mesh

theorem Tryz.own : ownKnob Tryz.prog.godebug = none := by kernel_rfl
theorem Tryz.laidOut : laidOutB Tryz.prog = true := by kernel_rfl
section
variable {H : Type} {enc : TypeId × Value → H} {w : World} {base : Nat} {spare : Nat → Bool} {held : Bool}
set_option maxRecDepth 100000 in
theorem soupArg {r : Reach} {b0 : Nat} {v : Value} {d : DataW H} {ps : List MemPlace} (hval : Value.okWide Tryz.prog w r b0 24 v) (hd : DataW.Trod enc Tryz.prog w base spare held 24 v d ps) :
    ∃ N sv T, v = .agg #[.int .i64 N, sv] ∧ I64 N ∧ Sl 3 RTri w w.heap.size sv T :=
  soup_of (e := 57) (q := 3) Tryz.underlying24 (by kernel_rfl) (by kernel_rfl) Tryz.underlying3 Tryz.underlying22 (by kernel_rfl) Tryz.underlying57 Tryz.underlying3 (by kernel_rfl) hval hd
end
end Go.Proofs.YtpbdcppaiafbgaaGreat

namespace Go.Words
open Go Go.RowKit Go.Deep Go.ChangeShapes Go.WideShapes Go.Joins Go.Mesh
theorem Sl.weak {α : Type} {sz : Nat} {R R' : Rep α} {w : World} {B : Nat} {v : Value} {l : List α} (h : Sl sz R w B v l) (hr : ∀ a cs, R w B a cs → R' w B a cs) : Sl sz R' w B v l := by
  obtain ⟨A, cap, rfl, hc, hh⟩ := h
  refine ⟨A, cap, rfl, hc, fun i a hi => ?_⟩
  obtain ⟨b, o, cs, h1, h2, h3, h4, h5⟩ := hh i a hi
  exact ⟨b, o, cs, h1, h2, h3, hr a cs h4, h5⟩
theorem Sl.all {α : Type} {sz : Nat} {R : Rep α} {w : World} {B : Nat} {v : Value} {l : List α} {Q : α → Prop} (h : Sl sz R w B v l) (hq : ∀ a cs, R w B a cs → Q a) : ∀ a ∈ l, Q a := fun a ha => by
  obtain ⟨A, cap, rfl, hc, hh⟩ := h
  obtain ⟨i, hi⟩ := List.mem_iff_getElem?.1 ha
  obtain ⟨b, o, cs, h1, h2, h3, h4, h5⟩ := hh i a hi
  exact hq a cs h4
section
variable {H : Type} {enc : TypeId × Value → H} {P : Program} {w : World} {base : Nat} {spare : Nat → Bool} {held : Bool}
theorem int_of_trodW {t : TypeId} {fuel : Nat} {v : Value} {x : DataW H × List MemPlace} (ht : P.underlying t = some (.int .i64)) (h : DataW.trod enc P w base spare held fuel t [v] = some x) : ∃ n : Int, v = .int .i64 n ∧ I64 n := by
  obtain ⟨n, h1, _, hwf⟩ := DataW.trod_int ht h
  injection h1 with h1
  exact ⟨n, h1, bounds_i64 hwf⟩
theorem edge_ofW {t q : TypeId} {fuel : Nat} {u0 u1 : Value} {x : DataW H × List MemPlace} (ht : P.underlying t = some (.array 2 q)) (hq : P.underlying q = some (.int .i64)) (hcq : P.cellsOf q = 1)
    (h : DataW.trod enc P w base spare held fuel t [u0, u1] = some x) : ∃ a b : Int, u0 = .int .i64 a ∧ u1 = .int .i64 b ∧ I64 a ∧ I64 b := by
  obtain ⟨xs, m', _, _, _, hxl, hf⟩ := DataW.trod_array ht h
  have g0 := hf 0 (by omega)
  have g1 := hf 1 (by omega)
  rw [hcq] at g0 g1
  rw [List.getElem?_eq_getElem (by omega)] at g0 g1
  obtain ⟨a, rfl, ha⟩ := int_of_trodW hq g0
  obtain ⟨b, rfl, hb⟩ := int_of_trodW hq g1
  exact ⟨a, b, rfl, rfl, ha, hb⟩
end
end Go.Words
namespace Go.Proofs.YtpbdcppaiafbgaaGreat
open Go.ChangeShapes Go.WideShapes Go.ChangeAt Go.RowKit Go.Words Go.Deep Go.Joins Go.Mesh
section
variable {H : Type} {enc : TypeId × Value → H} {w : World} {base : Nat} {spare : Nat → Bool} {held : Bool}
end
end Go.Proofs.YtpbdcppaiafbgaaGreat

namespace Go.Words
open Go Go.RowKit Go.Deep Go.ChangeShapes Go.WideShapes Go.Joins Go.Mesh
def RPairW : Rep (Int × Int) := fun _ _ e cs => cs = [.int .i64 e.1, .int .i64 e.2] ∧ ok2 e
section
variable {H : Type} {enc : TypeId × Value → H} {P : Program} {w : World} {base : Nat} {spare : Nat → Bool} {held : Bool}
theorem edges_ofW {t e q : TypeId} {fuel : Nat} {cs : List Value} {x : DataW H × List MemPlace} (ht : P.underlying t = some (.slice e)) (hc : P.cellsOf e = 2) (he : P.underlying e = some (.array 2 q)) (hq : P.underlying q = some (.int .i64)) (hcq : P.cellsOf q = 1)
    (h : DataW.trod enc P w base spare held fuel t cs = some x) : ∃ v l, cs = [v] ∧ Sl 2 RPairW w w.heap.size v l := by
  rcases open_slice ht h with ⟨rfl, _⟩ | ⟨a, len, cap, m, n, D, Pl, rfl, _, hl, _, hm, _, hx⟩
  · exact ⟨_, [], rfl, Sl.nil _ _⟩
  · have hlm : len ≤ m := by rw [hm]; split <;> omega
    obtain ⟨l, hsl⟩ := Sl.mk' (R := RPairW) (w := w) (a := a) (sz := 2) (by omega) hl fun i hi => by
      obtain ⟨cs', hc', ht'⟩ := hx i (by omega)
      rw [hc] at hc'
      obtain ⟨_, hcl, hat⟩ := World.cells?_some hc'
      match cs', hcl with
      | [u0, u1], _ =>
        obtain ⟨k0, k1, rfl, rfl, b0, b1⟩ := edge_ofW he hq hcq ht'
        refine ⟨(k0, k1), _, rfl, ⟨rfl, b0, b1⟩, fun j u hu => ?_⟩
        have hjl : j < 2 := (List.getElem?_eq_some_iff.1 hu).1
        have := hat j hjl
        rw [← Go.Deep.add_add, this]
        simpa using hu
    exact ⟨_, l, rfl, hsl⟩
end
end Go.Words
namespace Go.Proofs.YtpbdcppaiafbgaaGreat
open Go.ChangeShapes Go.WideShapes Go.ChangeAt Go.RowKit Go.Words Go.Deep Go.Joins Go.Mesh
section
variable {H : Type} {enc : TypeId × Value → H} {w : World} {base : Nat} {spare : Nat → Bool} {held : Bool}
set_option maxRecDepth 100000 in
theorem edgesArg {r : Reach} {b0 : Nat} {v : Value} {d : DataW H} {ps : List MemPlace} (hval : Value.okWide Tryz.prog w r b0 25 v) (hd : DataW.Trod enc Tryz.prog w base spare held 25 v d ps) :
    ∃ l, Sl 2 RPair w w.heap.size v l ∧ ∀ e ∈ l, ok2 e := by
  obtain ⟨l, hl⟩ := arg_of Tryz.underlying25 hval hd fun _ _ _ h => edges_ofW (q := 3) Tryz.underlying25 (by kernel_rfl) Tryz.underlying39 Tryz.underlying3 (by kernel_rfl) h
  exact ⟨l, hl.weak fun a cs h => h.1, hl.all fun a cs h => h.2⟩
end
end Go.Proofs.YtpbdcppaiafbgaaGreat
