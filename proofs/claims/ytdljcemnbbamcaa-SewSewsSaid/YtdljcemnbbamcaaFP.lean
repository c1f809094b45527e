/- Arguments: lists of numbers, and lists of pairs of edges, each number in its bounds. -/
import Derived.Test.YtdljcemnbbamcaaTU
import Derived.Test.YtdljcemnbbamcaaFE
namespace Go.Words
open Go Go.RowKit Go.Deep Go.ChangeShapes Go.WideShapes Go.Joins Go.Mesh
def RIntW : Rep Int := fun _ _ n cs => cs = [.int .i64 n] ∧ I64 n
def R4W : Rep P4 := fun _ _ p cs => cs = [.int .i64 p.1.1, .int .i64 p.1.2, .int .i64 p.2.1, .int .i64 p.2.2] ∧ ok2 p.1 ∧ ok2 p.2
theorem Sl.weak {α : Type} {sz : Nat} {R R' : Rep α} {w : World} {B : Nat} {v : Value} {l : List α} (h : Sl sz R w B v l) (hr : ∀ a cs, R w B a cs → R' w B a cs) : Sl sz R' w B v l := by
  obtain ⟨A, cap, rfl, hc, hh⟩ := h
  refine ⟨A, cap, rfl, hc, fun i a hi => ?_⟩
  obtain ⟨b, o, cs, h1, h2, h3, h4, h5⟩ := hh i a hi
  exact ⟨b, o, cs, h1, h2, h3, hr a cs h4, h5⟩
theorem Sl.all {α : Type} {sz : Nat} {R : Rep α} {w : World} {B : Nat} {v : Value} {l : List α} {Q : α → Prop} (h : Sl sz R w B v l) (hq : ∀ a cs, R w B a cs → Q a) : ∀ a ∈ l, Q a := fun a ha => by
  obtain ⟨A, cap, rfl, hc, hh⟩ := h
  obtain ⟨i, hi⟩ := List.mem_iff_getElem?.1 ha
  obtain ⟨b, o, cs, h1, h2, h3, h4, h5⟩ := hh i a hi
  exact hq a cs h4
section
variable {H : Type} {enc : TypeId × Value → H} {P : Program} {w : World} {base : Nat} {spare : Nat → Bool} {held : Bool}
theorem int_of_trodW {t : TypeId} {fuel : Nat} {v : Value} {x : DataW H × List MemPlace} (ht : P.underlying t = some (.int .i64)) (h : DataW.trod enc P w base spare held fuel t [v] = some x) : ∃ n : Int, v = .int .i64 n ∧ I64 n := by
  obtain ⟨n, h1, _, hwf⟩ := DataW.trod_int ht h
  injection h1 with h1
  exact ⟨n, h1, bounds_i64 hwf⟩
theorem ints_ofW {t e : TypeId} {fuel : Nat} {cs : List Value} {x : DataW H × List MemPlace} (ht : P.underlying t = some (.slice e)) (hc : P.cellsOf e = 1) (he : P.underlying e = some (.int .i64))
    (h : DataW.trod enc P w base spare held fuel t cs = some x) : ∃ v l, cs = [v] ∧ Sl 1 RIntW w w.heap.size v l := by
  rcases open_slice1 ht hc h with ⟨rfl, _⟩ | ⟨a, len, cap, m, n, V, D, Pl, rfl, _, hl, _, hm, _, hx⟩
  · exact ⟨_, [], rfl, Sl.nil _ _⟩
  · have hlm : len ≤ m := by rw [hm]; split <;> omega
    obtain ⟨l, hsl⟩ := Sl.mk' (R := RIntW) (w := w) (a := a) (sz := 1) (by omega) hl fun i hi => by
      obtain ⟨h1, h2⟩ := hx i (by omega)
      obtain ⟨k, hk, hk9⟩ := int_of_trodW he h2
      refine ⟨k, [.int .i64 k], rfl, ⟨rfl, hk9⟩, fun j u hu => ?_⟩
      cases j with
      | zero =>
        simp at hu
        subst hu
        rw [Nat.mul_one, Nat.add_zero, h1, hk]
      | succ j => simp at hu
    exact ⟨_, l, rfl, hsl⟩
theorem edge_ofW {t q : TypeId} {fuel : Nat} {u0 u1 : Value} {x : DataW H × List MemPlace} (ht : P.underlying t = some (.array 2 q)) (hq : P.underlying q = some (.int .i64)) (hcq : P.cellsOf q = 1)
    (h : DataW.trod enc P w base spare held fuel t [u0, u1] = some x) : ∃ a b : Int, u0 = .int .i64 a ∧ u1 = .int .i64 b ∧ I64 a ∧ I64 b := by
  obtain ⟨xs, m', _, _, _, hxl, hf⟩ := DataW.trod_array ht h
  have g0 := hf 0 (by omega)
  have g1 := hf 1 (by omega)
  rw [hcq] at g0 g1
  rw [List.getElem?_eq_getElem (by omega)] at g0 g1
  obtain ⟨a, rfl, ha⟩ := int_of_trodW hq g0
  obtain ⟨b, rfl, hb⟩ := int_of_trodW hq g1
  exact ⟨a, b, rfl, rfl, ha, hb⟩
theorem p4_ofW {t e q : TypeId} {f0 f1 : Field} {fuel : Nat} {cs : List Value} {x : DataW H × List MemPlace} (ht : P.underlying t = some (.slice e)) (hc : P.cellsOf e = 4) (he : P.underlying e = some (.struct #[f0, f1]))
    (ho0 : f0.offset = 0) (ho1 : f1.offset = 2) (hc0 : P.cellsOf f0.type = 2) (hc1 : P.cellsOf f1.type = 2) (h0 : P.underlying f0.type = some (.array 2 q)) (h1 : P.underlying f1.type = some (.array 2 q)) (hq : P.underlying q = some (.int .i64)) (hcq : P.cellsOf q = 1)
    (h : DataW.trod enc P w base spare held fuel t cs = some x) : ∃ v l, cs = [v] ∧ Sl 4 R4W w w.heap.size v l := by
  rcases open_slice ht h with ⟨rfl, _⟩ | ⟨a, len, cap, m, n, D, Pl, rfl, _, hl, _, hm, _, hx⟩
  · exact ⟨_, [], rfl, Sl.nil _ _⟩
  · have hlm : len ≤ m := by rw [hm]; split <;> omega
    obtain ⟨l, hsl⟩ := Sl.mk' (R := R4W) (w := w) (a := a) (sz := 4) (by omega) hl fun i hi => by
      obtain ⟨cs', hc', ht'⟩ := hx i (by omega)
      rw [hc] at hc'
      obtain ⟨ys, n', hn', hy, hlen, hyl, hf⟩ := DataW.trod_struct he ht'
      obtain ⟨_, hcl, hat⟩ := World.cells?_some hc'
      match cs', hcl with
      | [u0, u1, u2, u3], _ =>
        have g0 := hf 0 f0 rfl
        have g1 := hf 1 f1 rfl
        rw [ho0, hc0] at g0
        rw [ho1, hc1] at g1
        have y0 : ys[0]? = some (ys[0]'(by rw [hyl]; simp)) := List.getElem?_eq_getElem _
        have y1 : ys[1]? = some (ys[1]'(by rw [hyl]; simp)) := List.getElem?_eq_getElem _
        rw [y0] at g0
        rw [y1] at g1
        obtain ⟨k0, k1, rfl, rfl, b0, b1⟩ := edge_ofW h0 hq hcq g0
        obtain ⟨k2, k3, rfl, rfl, b2, b3⟩ := edge_ofW h1 hq hcq g1
        refine ⟨((k0, k1), k2, k3), _, rfl, ⟨rfl, ⟨b0, b1⟩, ⟨b2, b3⟩⟩, fun j u hu => ?_⟩
        have hjl : j < 4 := (List.getElem?_eq_some_iff.1 hu).1
        have := hat j hjl
        rw [← Go.Deep.add_add, this]
        simpa using hu
    exact ⟨_, l, rfl, hsl⟩
end
end Go.Words
namespace Go.Proofs.Ytdljcemnbbamcaa
open Go.ChangeShapes Go.WideShapes Go.ChangeAt Go.RowKit Go.Words Go.Deep Go.Joins Go.Mesh
section
variable {H : Type} {enc : TypeId × Value → H} {w : World} {base : Nat} {spare : Nat → Bool} {held : Bool}
set_option maxRecDepth 100000 in
theorem intsWArg {r : Reach} {b0 : Nat} {v : Value} {d : DataW H} {ps : List MemPlace} (hval : Value.okWide Try.prog w r b0 27 v) (hd : DataW.Trod enc Try.prog w base spare held 27 v d ps) :
    ∃ l, Sl 1 RInt w w.heap.size v l ∧ ∀ x ∈ l, I64 x := by
  obtain ⟨l, hl⟩ := arg_of Try.underlying27 hval hd fun _ _ _ h => ints_ofW Try.underlying27 (by kernel_rfl) Try.underlying3 h
  exact ⟨l, hl.weak fun a cs h => h.1, hl.all fun a cs h => h.2⟩
set_option maxRecDepth 100000 in
theorem p4Arg {r : Reach} {b0 : Nat} {v : Value} {d : DataW H} {ps : List MemPlace} (hval : Value.okWide Try.prog w r b0 25 v) (hd : DataW.Trod enc Try.prog w base spare held 25 v d ps) :
    ∃ l, Sl 4 R4 w w.heap.size v l ∧ ∀ p ∈ l, ok2 p.1 ∧ ok2 p.2 := by
  obtain ⟨l, hl⟩ := arg_of Try.underlying25 hval hd fun _ _ _ h => p4_ofW (q := 3) Try.underlying25 (by kernel_rfl) Try.underlying50 rfl rfl (by kernel_rfl) (by kernel_rfl) Try.underlying47 Try.underlying47 Try.underlying3 (by kernel_rfl) h
  exact ⟨l, hl.weak fun a cs h => h.1, hl.all fun a cs h => h.2⟩
end
end Go.Proofs.Ytdljcemnbbamcaa
