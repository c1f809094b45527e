/- Plain: what was cut along a ring is joined again; no program in sight. -/
import Derived.Test.YtpbdcppaiafbgaaGreatNE
import Derived.Test.YtpbdcppaiafbgaaGreatOJ
namespace Go.Mesh
section
variable {N : Int} {T X : List T3} {O : List Int} {v : Int}
end
section
variable {N : Int} {T X : List T3} {O : List Int} {v : Int}
end
end Go.Mesh
namespace Go.Proofs.YtpbdcppaiafbgaaGreat
open Go Go.RowKit Go.Words Go.Mesh
section
variable {N : Int} {T X P : List T3} {O K : List Int} {v : Int}
theorem opens_ok {l:List Int} (hs:Surf N T) (hmb:mayB N T P K=true) (hlp:lpN N T l=0) (hfew:(newO N T ((lpE l).map nm)).length<=4096) {c:Int} (h:OpenC N T P K l c):c=0:=by
 rcases h with ⟨a,_⟩ | ⟨_,a,_⟩ | ⟨_,_,⟨a,_⟩ | ⟨_,a,_⟩ | ⟨_,_,a⟩⟩
 ·exact absurd hs a
 ·rw [hmb] at a;cases a
 ·exact absurd hlp a
 ·omega
 ·exact a
end
end Go.Proofs.YtpbdcppaiafbgaaGreat
