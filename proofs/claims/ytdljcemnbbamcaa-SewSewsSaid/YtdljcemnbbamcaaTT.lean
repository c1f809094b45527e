/- Walks: the document's Inner, Link, Near. -/
import Derived.Test.YtdljcemnbbamcaaVB
namespace Go.Proofs.Ytdljcemnbbamcaa
open Go Go.RowKit Go.Words Go.Mesh

/-- A slice of what the call owns, that is not empty. -/
theorem own_addr {w : World} {base : Nat} {e : TypeId} {size n cap : Nat} {A : Option Addr} {xs : List Value} (h : w.ownsRow base e size (.slice A n cap) n xs) (hn : 0 < n) : ∃ g, A = some ⟨g, 0, none⟩ := by
  obtain ⟨m, rfl⟩ : ∃ m, n = m + 1 := ⟨n - 1, by omega⟩
  obtain ⟨g', c', h8⟩ := ownsRow_succ h
  injection h8 with h8
  exact ⟨_, h8⟩
theorem inner_head {N : Int} {T : List T3} (hs : Surf N T) {v : Int} (hl : 0 < (ringAt T N v).length) : ((dirc T (Mesh.vt T (nx (ringAt T N v)[0])) v).map (· / 3)).isSome = innerAt T N v := by
  rcases hs.ring_or v with ⟨h1, _, _⟩ | ⟨_, hv, hr⟩
  · rw [h1] at hl; simp at hl
  have hm := (hr.mem _).1 (List.getElem_mem hl)
  have h2 := hs.dirc_bef (ringAt T N v)[0]
  rw [hm.2] at h2
  rw [h2]
  have h3 := hr.head hl
  cases hb : bef T (ringAt T N v)[0] with
  | none => rw [h3.1 hb]; rfl
  | some d =>
    cases hi : innerAt T N v with
    | true => rfl
    | false => rw [h3.2 hi] at hb; cases hb
end Go.Proofs.Ytdljcemnbbamcaa
