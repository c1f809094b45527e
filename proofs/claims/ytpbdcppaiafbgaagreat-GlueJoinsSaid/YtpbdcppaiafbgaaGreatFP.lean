/- Arguments that are triangles. Arguments: lists of numbers. -/
import Derived.Test.YtpbdcppaiafbgaaGreatRows
import Derived.Test.YtpbdcppaiafbgaaGreatBridge
import Derived.Test.YtpbdcppaiafbgaaGreatTS
import Derived.OpenShut
import Derived.Test.YtpbdcppaiafbgaaGreatFE
namespace Go.Words
open Go Go.RowKit Go.Deep Go.ChangeShapes Go.WideShapes Go.Joins Go.Proofs.YtpbdcppaiafbgaaGreat Go.Mesh
section
variable {H : Type} {enc : TypeId×Value -> H} {P : Program} {w : World} {base : Nat} {spare : Nat -> Bool} {held : Bool}
theorem tris_of{t e q:TypeId}{fuel:Nat}{cs:List Value}{x:DataW H×List MemPlace}(ht:P.underlying t=some (.slice e))(hc:P.cellsOf e=3)(he:P.underlying e=some (.array 3 q))(hq:P.underlying q=some (.int .i64))(hcq:P.cellsOf q=1)
  (h:DataW.trod enc P w base spare held fuel t cs=some x):∃v l,cs=[v]/\Sl 3 RTri w w.heap.size v l:=by
 rcases open_slice ht h with⟨rfl,_⟩|⟨a,len,G,m,n,D,K,rfl,_,z,_,A,_,B⟩
 ·exact⟨_,[],rfl,Sl.nil _ _⟩
 ·have I:len<=m:=by rw[A];split<;>omega
  obtain⟨l,s⟩:=Sl.mk' (R:=RTri) (w:=w) (a:=a) (sz:=3) (by omega) z fun i hi=>by
   obtain⟨k,b,y⟩:=B i (by omega);rw[hc]at b;obtain⟨M,L,_,_,_,J,g⟩:=DataW.trod_array he y;obtain⟨_,p,o⟩:=World.cells?_some b
   match k,p with
   | [u0,u1,u2],_ =>
    have c:=g 0 (by omega);have d:=g 1 (by omega);have f:=g 2 (by omega);rw[hcq]at c d f;rw[zG (by omega)]at c d f;obtain⟨C,rfl⟩:=Zgc hq c;obtain⟨E,rfl⟩:=Zgc hq d;obtain⟨F,rfl⟩:=Zgc hq f;refine⟨(C,E,F),_,rfl,rfl,fun j u hu=>?_⟩;have r:j<3:=(zS.1 hu).1;have:=o j r;rw[<- Go.Deep.add_add,this];simpa using hu
  exact⟨_,l,rfl,s⟩
end
end Go.Words
namespace Go.Proofs.YtpbdcppaiafbgaaGreat
open Go.ChangeShapes Go.WideShapes Go.ChangeAt Go.RowKit Go.Words Go.Deep Go.Joins Go.Mesh
theorem Tryz.own:ownKnob Tryz.prog.godebug=none:=by kernel_rfl
theorem Tryz.laidOut:laidOutB Tryz.prog=true:=by kernel_rfl
section
variable {H : Type} {enc : TypeId×Value -> H} {w : World} {base : Nat} {spare : Nat -> Bool} {held : Bool}
end
end Go.Proofs.YtpbdcppaiafbgaaGreat
namespace Go.Words
open Go Go.RowKit Go.Deep Go.ChangeShapes Go.WideShapes Go.Joins Go.Mesh
section
variable {H : Type} {enc : TypeId×Value -> H} {P : Program} {w : World} {base : Nat} {spare : Nat -> Bool} {held : Bool}
end
end Go.Words
namespace Go.Proofs.YtpbdcppaiafbgaaGreat
open Go.ChangeShapes Go.WideShapes Go.ChangeAt Go.RowKit Go.Words Go.Deep Go.Joins Go.Mesh
section
variable {H : Type} {enc : TypeId×Value -> H} {w : World} {base : Nat} {spare : Nat -> Bool} {held : Bool}
end
end Go.Proofs.YtpbdcppaiafbgaaGreat
namespace Go.Words
open Go Go.RowKit Go.Deep Go.ChangeShapes Go.WideShapes Go.Joins Go.Mesh
section
variable {H : Type} {enc : TypeId×Value -> H} {P : Program} {w : World} {base : Nat} {spare : Nat -> Bool} {held : Bool}
end
end Go.Words
namespace Go.Proofs.YtpbdcppaiafbgaaGreat
open Go.ChangeShapes Go.WideShapes Go.ChangeAt Go.RowKit Go.Words Go.Deep Go.Joins Go.Mesh
section
variable {H : Type} {enc : TypeId×Value -> H} {w : World} {base : Nat} {spare : Nat -> Bool} {held : Bool}
