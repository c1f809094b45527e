/- From a datum that is read to a slice that reads as a list. -/
import Derived.Test.YtpbdcppaiafbgaaGreatWords
import Derived.Deep.Slices
import Derived.ChangeArms
import Derived.Lib.SmallJoins
import Derived.ProofKit
import Derived.WideKeyArgs
import Derived.Carry
import Derived.ChangeSame
namespace Go.Words
open Go Go.RowKit Go.Deep Go.ChangeShapes Go.WideShapes Go.Joins

section
variable {H : Type} {enc : TypeId × Value → H} {P : Program} {w : World} {base : Nat} {spare : Nat → Bool} {held : Bool}

theorem cell_spot {a : Addr} {v : Value} (h : w.cell? a = some v) : a = ⟨a.block, a.off, none⟩ ∧ a.block < w.heap.size := by
  obtain ⟨b, o, s⟩ := a
  unfold World.cell? at h
  simp only [] at h
  split at h
  · rename_i c t fr hh
    cases s with
    | none => exact ⟨rfl, (Array.getElem?_eq_some_iff.1 hh).1⟩
    | some s => simp at h
  · cases h
theorem add_plain (b o n : Nat) : Addr.add ⟨b, o, none⟩ n = ⟨b, o + n, none⟩ := Addr.add_lit b o n

theorem Sl.mk' {α : Type} {sz : Nat} {R : Rep α} (hsz : 0 < sz) {a : Addr} {len cap : Nat} (hc : len ≤ cap)
    (h : ∀ i, i < len → ∃ x cs, cs.length = sz ∧ R w w.heap.size x cs ∧ ∀ j u, cs[j]? = some u → w.cell? (a.add (i * sz + j)) = some u) :
    ∃ l, Sl sz R w w.heap.size (.slice (some a) len cap) l := by
  have h' : ∀ i : Nat, ∃ x : Option α, i < len → ∃ y cs, x = some y ∧ cs.length = sz ∧ R w w.heap.size y cs ∧ ∀ j u, cs[j]? = some u → w.cell? (a.add (i * sz + j)) = some u := fun i => by
    by_cases hi : i < len
    · obtain ⟨y, cs, h1⟩ := h i hi
      exact ⟨some y, fun _ => ⟨y, cs, rfl, h1⟩⟩
    · exact ⟨none, fun h9 => absurd h9 hi⟩
  let X := fun i => Classical.choose (h' i)
  have hX := fun i => Classical.choose_spec (h' i)
  have hlen : ∀ n, n ≤ len → ∃ l : List α, l.length = n ∧ ∀ (i : Nat) (y : α), l[i]? = some y → X i = some y := by
    intro n
    induction n with
    | zero => exact fun _ => ⟨[], rfl, fun i y h => by simp at h⟩
    | succ n ih =>
      intro hn
      obtain ⟨l, h1, h2⟩ := ih (by omega)
      obtain ⟨y, cs, h3, _⟩ := hX n (by omega)
      refine ⟨l ++ [y], by simp [h1], fun i z hz => ?_⟩
      by_cases hi : i < l.length
      · rw [List.getElem?_append_left hi] at hz
        exact h2 i z hz
      · rw [List.getElem?_append_right (by omega)] at hz
        have h4 : i - l.length = 0 := by
          have := (List.getElem?_eq_some_iff.1 hz).1
          simp at this
          omega
        rw [h4] at hz
        simp at hz
        subst hz
        have : i = n := by omega
        rw [this]; exact h3
  obtain ⟨l, h1, h2⟩ := hlen len (Nat.le_refl _)
  refine ⟨l, some a, cap, by rw [h1], by omega, fun i y hi => ?_⟩
  have hlt : i < len := by rw [← h1]; exact (List.getElem?_eq_some_iff.1 hi).1
  obtain ⟨y', cs, h3, h4, h5, h6⟩ := hX i hlt
  have h7 := h2 i y hi
  have h8 : y' = y := by
    have : some y' = some y := h3.symm.trans h7
    injection this
  subst h8
  have h0 : a = ⟨a.block, a.off, none⟩ ∧ a.block < w.heap.size := by
    obtain ⟨y0, cs0, g1, g2, g3, g4⟩ := hX 0 (by omega)
    cases cs0 with
    | nil => simp at g2; omega
    | cons u us =>
      have := cell_spot (g4 0 u rfl)
      rw [Nat.zero_mul] at this
      simpa [Addr.add] using this
  obtain ⟨ha, hb⟩ := h0
  refine ⟨a.block, a.off, cs, by rw [← ha], hb, h4, h5, fun j u hu => ?_⟩
  have := h6 j u hu
  rw [ha, add_plain] at this
  rw [Nat.add_assoc]
  exact this

theorem int_of_trod {t : TypeId} {fuel : Nat} {v : Value} {x : DataW H × List MemPlace} (ht : P.underlying t = some (.int .i64)) (h : DataW.trod enc P w base spare held fuel t [v] = some x) : ∃ n : Int, v = .int .i64 n := by
  obtain ⟨n, h1, _⟩ := DataW.trod_int ht h
  injection h1 with h1
  exact ⟨n, h1⟩

end
end Go.Words

namespace Go.Words
open Go Go.RowKit Go.Deep Go.ChangeShapes Go.WideShapes Go.Joins
section
variable {H : Type} {enc : TypeId × Value → H} {P : Program} {w : World} {base : Nat} {spare : Nat → Bool} {held : Bool}
theorem arg_of {α : Type} {sz : Nat} {R : Rep α} {r : Reach} {b0 : Nat} {t e : TypeId} {v : Value} {d : DataW H} {ps : List MemPlace} (ht : P.underlying t = some (.slice e)) (hval : Value.okWide P w r b0 t v) (hd : DataW.Trod enc P w base spare held t v d ps)
    (hrow : ∀ (fuel : Nat) (cs : List Value) (x : DataW H × List MemPlace), DataW.trod enc P w base spare held fuel t cs = some x → ∃ v l, cs = [v] ∧ Sl sz R w w.heap.size v l) : ∃ l, Sl sz R w w.heap.size v l := by
  obtain ⟨a, len, cap, rfl⟩ := okWide_slice ht hval
  obtain ⟨fuel, hf⟩ := hd
  obtain ⟨v', l, hv, hl⟩ := hrow _ _ _ hf
  have : v' = .slice a len cap := by simpa [Value.cells] using hv.symm
  subst this
  exact ⟨l, hl⟩

theorem trodAll_below (hl : laidOutB P = true) {W W' : World} (hb : Below W.heap.size W W') {sp : Nat → Bool} : ∀ (ts : List TypeId) (vs : List Value) (ds : List (DataW H)) (ps : List MemPlace),
    (ts.all fun t => P.readableRec t && decide (t < P.types.size)) = true → DataW.TrodAll enc P W 0 (fun _ => true) true ts vs ds ps → (∀ x ∈ ps, x.block < W.heap.size) → (∀ x ∈ ps, sp x.block = true) →
    DataW.TrodAll enc P W' 0 sp true ts vs ds ps
  | [], vs, ds, ps, _, h, _, _ => by
    cases vs <;> cases ds <;> simp_all [DataW.TrodAll]
  | t :: ts, vs, ds, ps, ht, h, hlt, hsp => by
    cases vs with
    | nil => cases ds <;> exact h.elim
    | cons v vs =>
      cases ds with
      | nil => exact h.elim
      | cons d ds =>
        simp only [List.all_cons, Bool.and_eq_true, decide_eq_true_eq] at ht
        obtain ⟨⟨hr, hrow⟩, ht'⟩ := ht
        obtain ⟨p, q, h1, h2, rfl⟩ := h
        refine ⟨p, q, WideElems.Trod_stays hl hr hrow h1 (fun x hx => hb.same (hlt x (List.mem_append_left _ hx))) (fun x hx => hsp x (List.mem_append_left _ hx)), ?_, rfl⟩
        exact trodAll_below hl hb ts vs ds q (by simpa using ht') h2 (fun x hx => hlt x (List.mem_append_right _ hx)) (fun x hx => hsp x (List.mem_append_right _ hx))

theorem post_of_below {f : Func} {s : ChangeSpec} {apart fresh handsOn again : Bool} {W W' : World} {args : Array Value} {v : Value} {ds gs : List (DataW H)} {before pa pv : List MemPlace}
    (hW : DataW.Whole enc P f.params.toList s.vars apart W args.toList ds gs before)
    (hres : ∀ (b : Nat) (sp : Nat → Bool) (hd : Bool), DataW.TrodAll enc P W' b sp hd f.resultTypes.toList (v.resultList f.resultTypes.size) (s.fn H (ds ++ gs)).results [])
    (hargs : ∀ sp : Nat → Bool, (∀ p ∈ before, sp p.block = true) → DataW.TrodAll enc P W' 0 sp true f.params.toList args.toList (s.fn H (ds ++ gs)).args pa)
    (hvars : ∀ sp : Nat → Bool, (∀ p ∈ before, sp p.block = true) → DataW.TrodVars enc P W' sp s.vars (s.fn H (ds ++ gs)).vars pv)
    (hps : before = pa ++ pv) (hb : Below W.heap.size W W')
    (hok : ∀ (j : Nat) (t : TypeId) (r : Value), f.resultTypes[j]? = some t → (v.resultList f.resultTypes.size)[j]? = some r → Value.okWide P W' .any 0 t r) :
    s.post enc P f apart fresh handsOn again W args v W' := by
  have hlt : ∀ p ∈ before, p.block < W.heap.size := fun p hp => hW.lt p hp
  have hold : ∀ p ∈ before, (fun b => decide (b < W.heap.size)) p.block = true := fun p hp => by simpa using hlt p hp
  refine ⟨ds, gs, before, [], pa, pv, hW, hres _ _ _, hargs _ hold, hvars _ hold, World.keptBut_mono (fun p hp => ⟨hp, ?_⟩) (hb.frame (· ∈ before)), fun _ => ?_⟩
  · rw [hps, List.mem_append] at hp
    exact Or.inr hp
  · obtain ⟨_, _, _, _, _, hz, hn⟩ := hW
    refine ⟨hok, _, _, ([] ++ pa) ++ pv, ⟨[] ++ pa, pv, trodAll_append (hargs _ (fun _ _ => rfl)) (hres _ _ _), hvars _ (fun _ _ => rfl), rfl, ?_, ?_⟩, ?_⟩
    · intro b off hp
      have hin : MemPlace.cell b off ∈ before := by rw [hps]; simpa using hp
      rw [hb.frozen (hlt _ hin)]
      exact hz b off hin
    · intro ha
      have := hn ha
      rw [hps] at this
      simpa using this
    · intro p hp _
      rw [hps]
      simpa using hp
end
end Go.Words
