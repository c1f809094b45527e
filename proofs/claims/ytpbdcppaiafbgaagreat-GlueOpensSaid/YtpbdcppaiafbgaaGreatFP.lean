/- Arguments that are triangles. Arguments: lists of numbers, and lists of pairs of edges, each number in its bounds. Arguments: lists of edges, each number in its bounds; lists of bytes. -/
import Derived.Test.YtpbdcppaiafbgaaGreatRows
import Derived.Test.YtpbdcppaiafbgaaGreatBridge
import Derived.Test.YtpbdcppaiafbgaaGreatTS
import Derived.OpenShut
import Derived.Test.YtpbdcppaiafbgaaGreatFE
set_option maxRecDepth 100000
set_option maxHeartbeats 8000000
namespace Go.Words
open Go Go.RowKit Go.Deep Go.ChangeShapes Go.WideShapes Go.Joins Go.Proofs.YtpbdcppaiafbgaaGreat Go.Mesh
section
variable {H : Type} {enc : TypeId × Value -> H} {P : Program} {w : World} {base : Nat} {spare : Nat -> Bool} {held : Bool}
theorem tris_of {t e q:TypeId} {fuel:Nat} {cs:List Value} {x:DataW H × List MemPlace} (ht:P.underlying t=some (.slice e)) (hc:P.cellsOf e=3) (he:P.underlying e=some (.array 3 q)) (hq:P.underlying q=some (.int .i64)) (hcq:P.cellsOf q=1)
  (h:DataW.trod enc P w base spare held fuel t cs=some x):∃ v l,cs=[v]/\Sl 3 RTri w w.heap.size v l:=by
 rcases open_slice ht h with ⟨rfl,_⟩ | ⟨a,len,G,m,n,D,K,rfl,_,z,_,A,_,B⟩
 ·exact ⟨_,[],rfl,Sl.nil _ _⟩
 ·have I:len<=m:=by rw [A];split <;> omega
  obtain ⟨l,s⟩:=Sl.mk' (R:=RTri) (w:=w) (a:=a) (sz:=3) (by omega) z fun i hi=>by
   obtain ⟨k,b,y⟩:=B i (by omega)
   rw [hc] at b
   obtain ⟨M,L,_,_,_,J,g⟩:=DataW.trod_array he y
   obtain ⟨_,p,o⟩:=World.cells?_some b
   match k,p with
   | [u0,u1,u2],_ =>
    have c:=g 0 (by omega)
    have d:=g 1 (by omega)
    have f:=g 2 (by omega)
    rw [hcq] at c d f
    rw [zG (by omega)] at c d f
    obtain ⟨C,rfl⟩:=int_of_trod hq c
    obtain ⟨E,rfl⟩:=int_of_trod hq d
    obtain ⟨F,rfl⟩:=int_of_trod hq f
    refine ⟨(C,E,F),_,rfl,rfl,fun j u hu=>?_⟩
    have r:j<3:=(List.getElem?_eq_some_iff.1 hu).1
    have:=o j r
    rw [<- Go.Deep.add_add,this]
    simpa using hu
  exact ⟨_,l,rfl,s⟩
end
end Go.Words
namespace Go.Proofs.YtpbdcppaiafbgaaGreat
open Go.ChangeShapes Go.WideShapes Go.ChangeAt Go.RowKit Go.Words Go.Deep Go.Joins Go.Mesh
theorem Tryz.own:ownKnob Tryz.prog.godebug=none:=by kernel_rfl
theorem Tryz.laidOut:laidOutB Tryz.prog=true:=by kernel_rfl
section
variable {H : Type} {enc : TypeId × Value -> H} {w : World} {base : Nat} {spare : Nat -> Bool} {held : Bool}
end
end Go.Proofs.YtpbdcppaiafbgaaGreat
namespace Go.Words
open Go Go.RowKit Go.Deep Go.ChangeShapes Go.WideShapes Go.Joins Go.Mesh
def RIntW:Rep Int:=fun _ _ n cs=>cs=[.int .i64 n]/\I64 n
theorem Sl.weak {α:Type} {sz:Nat} {R R':Rep α} {w:World} {B:Nat} {v:Value} {l:List α} (h:Sl sz R w B v l) (hr:∀ a c,R w B a c->R' w B a c):Sl sz R' w B v l:=by
 obtain ⟨A,d,rfl,m,n⟩:=h
 refine ⟨A,d,rfl,m,fun i a hi=>?_⟩
 obtain ⟨b,o,c,e,f,g,j,k⟩:=n i a hi
 exact ⟨b,o,c,e,f,g,hr a c j,k⟩
theorem Sl.all {α:Type} {sz:Nat} {R:Rep α} {w:World} {B:Nat} {v:Value} {l:List α} {Q:α->Prop} (h:Sl sz R w B v l) (hq:∀ a c,R w B a c->Q a):∀ a∈l,Q a:=fun a ha=>by
 obtain ⟨A,g,rfl,p,e⟩:=h
 obtain ⟨i,f⟩:=List.mem_iff_getElem?.1 ha
 obtain ⟨b,o,c,j,k,m,d,n⟩:=e i a f
 exact hq a c d
section
variable {H : Type} {enc : TypeId × Value -> H} {P : Program} {w : World} {base : Nat} {spare : Nat -> Bool} {held : Bool}
theorem int_of_trodW {t:TypeId} {fuel:Nat} {v:Value} {x:DataW H × List MemPlace} (ht:P.underlying t=some (.int .i64)) (h:DataW.trod enc P w base spare held fuel t [v]=some x):∃ n:Int,v=.int .i64 n/\I64 n:=by
 obtain ⟨n,a,_,b⟩:=DataW.trod_int ht h
 injection a with a
 exact ⟨n,a,bounds_i64 b⟩
theorem ints_ofW {t e:TypeId} {fuel:Nat} {cs:List Value} {x:DataW H × List MemPlace} (ht:P.underlying t=some (.slice e)) (hc:P.cellsOf e=1) (he:P.underlying e=some (.int .i64))
  (h:DataW.trod enc P w base spare held fuel t cs=some x):∃ v l,cs=[v]/\Sl 1 RIntW w w.heap.size v l:=by
 rcases open_slice1 ht hc h with ⟨rfl,_⟩ | ⟨a,len,r,m,n,V,D,y,rfl,_,o,_,p,_,q⟩
 ·exact ⟨_,[],rfl,Sl.nil _ _⟩
 ·have s:len<=m:=by rw [p];split <;> omega
  obtain ⟨l,c⟩:=Sl.mk' (R:=RIntW) (w:=w) (a:=a) (sz:=1) (by omega) o fun i hi=>by
   obtain ⟨d,f⟩:=q i (by omega)
   obtain ⟨k,g,b⟩:=int_of_trodW he f
   refine ⟨k,[.int .i64 k],rfl,⟨rfl,b⟩,fun j u hu=>?_⟩
   cases j with
   | zero =>
    simp at hu
    subst hu
    rw [Nat.mul_one,Nat.add_zero,d,g]
   | succ j=>simp at hu
  exact ⟨_,l,rfl,c⟩
end
end Go.Words
namespace Go.Proofs.YtpbdcppaiafbgaaGreat
open Go.ChangeShapes Go.WideShapes Go.ChangeAt Go.RowKit Go.Words Go.Deep Go.Joins Go.Mesh
section
variable {H : Type} {enc : TypeId × Value -> H} {w : World} {base : Nat} {spare : Nat -> Bool} {held : Bool}
theorem intsWArg {r:Reach} {b0:Nat} {v:Value} {d:DataW H} {ps:List MemPlace} (hval:Value.okWide Tryz.prog w r b0 28 v) (hd:DataW.Trod enc Tryz.prog w base spare held 28 v d ps) :
  ∃ l,Sl 1 RInt w w.heap.size v l/\∀ x∈l,I64 x:=by
 obtain ⟨l,b⟩:=arg_of Tryz.underlying28 hval hd fun _ _ _ h=>ints_ofW Tryz.underlying28 (by kernel_rfl) Tryz.underlying3 h
 exact ⟨l,b.weak fun a cs h=>h.1,b.all fun a cs h=>h.2⟩
end
end Go.Proofs.YtpbdcppaiafbgaaGreat
namespace Go.Words
open Go Go.RowKit Go.Deep Go.ChangeShapes Go.WideShapes Go.Joins Go.Mesh
section
variable {H : Type} {enc : TypeId × Value -> H} {P : Program} {w : World} {base : Nat} {spare : Nat -> Bool} {held : Bool}
end
end Go.Words
namespace Go.Proofs.YtpbdcppaiafbgaaGreat
open Go.ChangeShapes Go.WideShapes Go.ChangeAt Go.RowKit Go.Words Go.Deep Go.Joins Go.Mesh
section
variable {H : Type} {enc : TypeId × Value -> H} {w : World} {base : Nat} {spare : Nat -> Bool} {held : Bool}
end
end Go.Proofs.YtpbdcppaiafbgaaGreat
