/- Plain: a bay gone over from its seed; no program in sight. -/
import Derived.Test.YtpbdcppaiafbgaaGreatDX
namespace Go.Mesh
section
variable {N : Int} {T : List T3} {S : List Nat}
/-- Those of the first i bays are seen. -/
def Seen (M : List Int) (seen : List Bool) (i : Nat) : Prop := seen.length = M.length ∧ ∀ (x : Nat) (a : Int), M[x]? = some a → seen[x]? = some (decide (a < (i : Int)))
/-- While the i-th bay is gone over: of those that wait the first k are done, of the next one the edges below j. -/
structure Cq (T : List T3) (S : List Nat) (seen : List Bool) (W : List Nat) (i k j : Nat) : Prop where
  len : seen.length = T.length
  nd : W.Nodup
  lt : ∀ x ∈ W, x < T.length
  inb : ∀ x ∈ W, (nearL T S)[x]? = some (i : Int)
  sn : ∀ (x : Nat) (a : Int), (nearL T S)[x]? = some a → seen[x]? = some (decide (a < (i : Int)) || decide (x ∈ W))
  seed : ∀ s, S[i]? = some s → s ∈ W
  done : ∀ (a x k' y : Nat), (a < k ∨ (a = k ∧ k' < j)) → k' < 3 → W[a]? = some x → nb T x k' = some y → (nearL T S)[y]? = some (i : Int) → y ∈ W
theorem Seen.start {seen : List Bool} {i s : Nat} (h : Seen (nearL T S) seen i) (hi : S[i]? = some s) (hs : (nearL T S)[s]? = some (i : Int)) : Cq T S (seen.set s true) [s] i 0 0 := by
  obtain ⟨h1, h2⟩ := h
  have hsl := (List.getElem?_eq_some_iff.1 hs).1
  have hnl := nearL_len T S
  refine ⟨by rw [List.length_set]; omega, by simp, fun x hx => by rw [List.mem_singleton.1 hx]; omega, fun x hx => by rw [List.mem_singleton.1 hx]; exact hs, fun x a hx => ?_, fun t ht => by rw [hi] at ht; simpa using (Option.some.inj ht).symm, fun a x k' y h3 => by omega⟩
  by_cases hxs : x = s
  · subst hxs
    rw [List.getElem?_set_self (by omega)]
    simp
  · rw [List.getElem?_set_ne (Ne.symm hxs), h2 x a hx]
    simp [hxs]
variable {seen : List Bool} {W : List Nat} {i k j : Nat}
theorem Cq.skip (h : Cq T S seen W i k j) (hn : ∀ x y, W[k]? = some x → nb T x j = some y → (nearL T S)[y]? = some (i : Int) → y ∈ W) : Cq T S seen W i k (j + 1) :=
  ⟨h.len, h.nd, h.lt, h.inb, h.sn, h.seed, fun a x k' y h1 h2 h3 h4 h5 => by
    by_cases h9 : a = k ∧ k' = j
    · obtain ⟨rfl, rfl⟩ := h9
      exact hn x y h3 h4 h5
    · exact h.done a x k' y (by omega) h2 h3 h4 h5⟩
theorem Cq.next (h : Cq T S seen W i k 3) : Cq T S seen W i (k + 1) 0 := ⟨h.len, h.nd, h.lt, h.inb, h.sn, h.seed, fun a x k' y h1 h2 h3 h4 h5 => h.done a x k' y (by omega) h2 h3 h4 h5⟩
theorem Cq.push (h : Cq T S seen W i k j) {x y : Nat} (hx : W[k]? = some x) (hn : nb T x j = some y) (hy : (nearL T S)[y]? = some (i : Int)) (hno : y ∉ W) : Cq T S (seen.set y true) (W ++ [y]) i k (j + 1) := by
  have hyl := (List.getElem?_eq_some_iff.1 hy).1
  have hnl := nearL_len T S
  have hlen := h.len
  have hkl := (List.getElem?_eq_some_iff.1 hx).1
  refine ⟨by rw [List.length_set]; exact hlen, List.nodup_append.2 ⟨h.nd, by simp, fun a ha b hb e => hno (by rw [List.mem_singleton] at hb; subst hb; subst e; exact ha)⟩, ?_, ?_, ?_, fun s hs => List.mem_append.2 (.inl (h.seed s hs)), ?_⟩
  · intro z hz
    rcases List.mem_append.1 hz with h1 | h1
    · exact h.lt z h1
    · rw [List.mem_singleton.1 h1]; omega
  · intro z hz
    rcases List.mem_append.1 hz with h1 | h1
    · exact h.inb z h1
    · rw [List.mem_singleton.1 h1]; exact hy
  · intro z a hz
    by_cases hzy : z = y
    · subst hzy
      rw [List.getElem?_set_self (by omega)]
      simp
    · rw [List.getElem?_set_ne (Ne.symm hzy), h.sn z a hz]
      simp [hzy]
  · intro a z k' u h1 h2 h3 h4 h5
    have h3' : W[a]? = some z := by
      rw [List.getElem?_append_left (by omega)] at h3
      exact h3
    by_cases h9 : a = k ∧ k' = j
    · obtain ⟨rfl, rfl⟩ := h9
      rw [hx] at h3'
      obtain rfl := Option.some.inj h3'
      rw [hn] at h4
      obtain rfl := Option.some.inj h4
      simp
    · exact List.mem_append.2 (.inl (h.done a z k' u (by omega) h2 h3' h4 h5))
end
end Go.Mesh
