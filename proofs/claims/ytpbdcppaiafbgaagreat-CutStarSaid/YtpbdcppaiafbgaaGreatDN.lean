/- The law BayConnected, walked. -/
import Derived.Test.YtpbdcppaiafbgaaGreatDK
import Derived.Test.YtpbdcppaiafbgaaGreatDM
namespace Go.Proofs.YtpbdcppaiafbgaaGreat
open Go Go.RowKit Go.Words Go.Mesh

theorem own_setcell {w : World} {g base size n : Nat} {e : TypeId} {v u : Value} {xs : List Value} (h : w.ownsRow base e size v n xs) (hb : g < base) (i : Nat) : (w.setCell ⟨g, i, none⟩ u).ownsRow base e size v n xs :=
  h.kept (row := some g) ⟨rfl, rfl, rfl, (KeepsWalks.setCell w _ _).size, fun b _ hbb => Below.heap_setCell _ _ _ b (fun e => hbb (by rw [e]))⟩ (.inr fun e => by have := (h.lt _ e).1; omega)
end Go.Proofs.YtpbdcppaiafbgaaGreat
