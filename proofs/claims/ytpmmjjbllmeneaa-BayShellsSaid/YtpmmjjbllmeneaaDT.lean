/- A row that has an element has an address. -/
import Derived.Test.YtpmmjjbllmeneaaTN
import Derived.Test.YtpmmjjbllmeneaaTO
import Derived.Test.YtpmmjjbllmeneaaDB
import Derived.RangeFuncBox
namespace Go.Proofs.Ytpmmjjbllmeneaa
open Go Go.RowKit Go.Words Go.Mesh
theorem own_addrD {w : World} {base : Nat} {e : TypeId} {size n cap : Nat} {A : Option Addr} {xs : List Value} (h : w.ownsRow base e size (.slice A n cap) n xs) (hn : 0 < n) : ∃ g, A = some ⟨g, 0, none⟩ := by
  obtain ⟨m, rfl⟩ : ∃ m, n = m + 1 := ⟨n - 1, by omega⟩
  obtain ⟨g', c', h8⟩ := ownsRow_succ h
  injection h8 with h8
  exact ⟨_, h8⟩
end Go.Proofs.Ytpmmjjbllmeneaa
