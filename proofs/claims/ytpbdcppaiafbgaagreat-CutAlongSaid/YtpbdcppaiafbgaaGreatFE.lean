/- Walks: sew's find and one (closures that share two variables), edge. -/
import Derived.Test.YtpbdcppaiafbgaaGreatMC
import Derived.Test.YtpbdcppaiafbgaaGreatTree
import Derived.Test.YtpbdcppaiafbgaaGreatGA
namespace Go.Words
open Go Go.RowKit Go.Mesh
def R4 : Rep P4 := fun _ _ p cs => cs = [.int .i64 p.1.1, .int .i64 p.1.2, .int .i64 p.2.1, .int .i64 p.2.2]
theorem keeps_4 : Keeps R4 := ⟨fun h _ _ => h⟩
theorem Sl.p4_at {w : World} {B n cap k : Nat} {A : Option Addr} {l : List P4} (h : Sl 4 R4 w B (.slice A n cap) l) {p : P4} (hk : l[k]? = some p) :
    ∃ b o, A = some ⟨b, o, none⟩ ∧ b < B ∧ w.cell? ⟨b, o + k * 4, none⟩ = some (.int .i64 p.1.1) ∧ w.cell? ⟨b, o + k * 4 + 1, none⟩ = some (.int .i64 p.1.2) ∧ w.cell? ⟨b, o + k * 4 + 2, none⟩ = some (.int .i64 p.2.1) ∧ w.cell? ⟨b, o + k * 4 + 3, none⟩ = some (.int .i64 p.2.2) := by
  obtain ⟨b, o, cs, h1, h2, h3, h4, h5⟩ := h.at_ hk
  unfold R4 at h4
  subst h4
  exact ⟨b, o, h1, h2, by simpa using h5 0 _ rfl, h5 1 _ rfl, h5 2 _ rfl, h5 3 _ rfl⟩
end Go.Words
namespace Go.Proofs.YtpbdcppaiafbgaaGreat
open Go Go.RowKit Go.Words Go.Mesh

structure FindW (w : World) (gr gf g : Nat) (R : List Int) : Prop where
  root : w.cell? ⟨gr, 0, none⟩ = some (.slice (some ⟨g, 0, none⟩) R.length R.length)
  find : w.cell? ⟨gf, 0, none⟩ = some (.func (.func 100) #[] #[.pointer (some ⟨gr, 0, none⟩), .pointer (some ⟨gf, 0, none⟩)])
  bk : Bk w g 3 (R.map (Value.int .i64))
  lr : gr < w.heap.size
  lf : gf < w.heap.size
theorem FindW.below {w w' : World} {gr gf g : Nat} {R : List Int} (h : FindW w gr gf g R) (hb : Below w.heap.size w w') : FindW w' gr gf g R :=
  ⟨(hb.cell (p := ⟨gr, 0, none⟩) h.lr).trans h.root, (hb.cell (p := ⟨gf, 0, none⟩) h.lf).trans h.find, h.bk.below hb h.bk.lt, Nat.lt_of_lt_of_le h.lr hb.size, Nat.lt_of_lt_of_le h.lf hb.size⟩
theorem FindW.drew {w : World} {gr gf g : Nat} {R : List Int} (h : FindW w gr gf g R) : FindW w.drew gr gf g R := ⟨h.root, h.find, h.bk.drew, h.lr, h.lf⟩
end Go.Proofs.YtpbdcppaiafbgaaGreat
