/- Words: a map's keys, gone over in whatever order. -/
import Derived.Test.YtckkpmjkajkkmaaGreatKeys
import Derived.Sort.MapsRangeIn
import Derived.Sort.KeysCollected
import Derived.RangeFuncStops
import Derived.RangeFuncNested
namespace Go.Words
open Go Go.RowKit Go.Maps Go.MapKept Go.WideElems
section
variable {P : Program} {k : TypeId} {κ α : Type} {enc : κ → Value} {ok : κ → Prop} {ev : α → Value} {w : World} {b : Nat} {lm : List (κ × α)}
/-- However an element reads. -/
def RU : Value → Option (DataW Unit × List MemPlace) := fun _ => some (.lit (.bool true), [])
theorem Mp.owns (h : Mp enc ok ev w b lm) (K : KeyT P k enc ok) (hl : lm.length ≤ maxLen) : ∃ D0 : DataW Unit, w.ownsMap P k RU b maxLen D0 ∧ Maps.size D0 = lm.length ∧
    (∀ x ∈ lm.map (·.1), ∀ kl, keyOf P k (enc x) = some kl → has D0 kl = true) ∧ (∀ kl, has D0 kl = true → ∃ x ∈ lm.map (·.1), keyOf P k (enc x) = some kl) := by
  obtain ⟨es, clock, hb, hst, hes⟩ := h.block
  have hlen : es.size = lm.length := by
    have := congrArg List.length hes
    simpa using this
  have hrd : ∀ x ∈ es.toList, ∃ y, rd P k RU x = some y := fun x hx => by
    obtain ⟨kl, hkl⟩ := entries_read K hes h.keys x hx
    exact ⟨(kl, .lit (.bool true)), by simp [rd, hkl, RU]⟩
  refine ⟨_, ⟨es, clock, hb, ⟨by omega, hst, hrd⟩, by omega, rfl⟩, by simp [Maps.size, length_sorted, hlen], fun x hx kl hkl => ?_, fun kl hk => ?_⟩
  · obtain ⟨p, hp, rfl⟩ := List.mem_map.1 hx
    obtain ⟨j, hj, rfl⟩ := List.getElem_of_mem hp
    have hjl : j < es.toList.length := by simp; omega
    obtain ⟨_, h1, _⟩ := entries_at hes (List.getElem?_eq_getElem hjl)
    obtain ⟨y, hy⟩ := hrd _ (List.getElem_mem hjl)
    have hy1 := rd_key hy
    rw [h1, hkl] at hy1
    have hy1 := Option.some.inj hy1
    rw [has_eq, List.any_eq_true]
    refine ⟨y, mem_sorted.2 (List.mem_map.2 ⟨_, List.getElem_mem hjl, rg_of hy⟩), ?_⟩
    rw [← hy1]
    exact WideAt.sameKey_self (K.keyed.key hkl)
  · rw [has_eq, List.any_eq_true] at hk
    obtain ⟨y, hy, hs⟩ := hk
    obtain ⟨e, he, rfl⟩ := List.mem_map.1 (mem_sorted.1 hy)
    obtain ⟨j, hj⟩ := List.mem_iff_getElem?.1 he
    obtain ⟨hj', h1, _⟩ := entries_at hes hj
    obtain ⟨z, hz⟩ := hrd e he
    have hz1 := rd_key hz
    rw [rg_of hz] at hs
    refine ⟨lm[j].1, List.mem_map_of_mem (List.getElem_mem hj'), ?_⟩
    rw [← h1, hz1, WideAt.sameKey_eq hs]
/-- The keys gone over so far. -/
def CollK (P : Program) (k : TypeId) (enc : κ → Value) (keys : List κ) (left : Lit → Bool) (ss : List κ) : Prop :=
  ss.Nodup ∧ (∀ x ∈ ss, x ∈ keys) ∧ ∀ x ∈ keys, ∀ kl, keyOf P k (enc x) = some kl → (x ∈ ss ↔ left kl = false)
theorem CollK.start {D0 : DataW Unit} {keys : List κ} (h : ∀ x ∈ keys, ∀ kl, keyOf P k (enc x) = some kl → has D0 kl = true) : CollK P k enc keys (has D0) [] :=
  ⟨List.nodup_nil, (fun x hx => by cases hx), fun x hx kl hk => by rw [h x hx kl hk]; simp⟩
theorem CollK.step [DecidableEq κ] (K : KeyT P k enc ok) {keys : List κ} (hok : ∀ x ∈ keys, ok x) {left : Lit → Bool} {ss : List κ} (h : CollK P k enc keys left ss) {x : κ} {kl : Lit} (hx : x ∈ keys) (hk : keyOf P k (enc x) = some kl) (hl : left kl = true) :
    CollK P k enc keys (fun z => left z && !z.sameKey kl) (ss ++ [x]) := by
  obtain ⟨h1, h2, h3⟩ := h
  have hn : x ∉ ss := fun hm => by rw [(h3 x hx kl hk).1 hm] at hl; cases hl
  refine ⟨List.nodup_append.2 ⟨h1, by simp, fun a ha c hc e => by
    rw [List.mem_singleton.1 hc] at e
    exact hn (e ▸ ha)⟩, fun y hy => ?_, fun y hy ky hky => ?_⟩
  · rcases List.mem_append.1 hy with h4 | h4
    · exact h2 y h4
    · rw [List.mem_singleton.1 h4]; exact hx
  · rw [List.mem_append, List.mem_singleton, h3 y hy ky hky]
    by_cases hyx : y = x
    · subst hyx
      rw [hk] at hky
      obtain rfl := Option.some.inj hky
      have := WideAt.sameKey_self (K.keyed.key hk)
      simp [this]
    · have hne : ky.sameKey kl = false := by
        rw [Bool.eq_false_iff]
        intro hs
        have e := WideAt.sameKey_eq hs
        subst e
        exact hyx (K.inj _ _ (hok y hy) (hok x hx) (K.keyed.inj hky hk))
      simp [hyx, hne]
theorem CollK.perm (K : KeyT P k enc ok) {keys : List κ} (hok : ∀ x ∈ keys, ok x) (hnd : keys.Nodup) {left : Lit → Bool} {ss : List κ} (h : CollK P k enc keys left ss) (hl : ∀ kl, left kl = false) : ss.Perm keys := by
  obtain ⟨h1, h2, h3⟩ := h
  refine (List.perm_ext_iff_of_nodup h1 hnd).2 fun x => ⟨h2 x, fun hx => ?_⟩
  obtain ⟨kl, hkl⟩ := K.reads x (hok x hx)
  exact (h3 x hx kl hkl).2 (hl kl)
end
end Go.Words
