/- Za6: all pairs of numbers in their order, and the edges. -/
import Derived.Test.YtpbdcppaiafbgaaGreatHK
namespace Go.Mesh
def rowE(n a:Nat):List (Int×Int):=((List.range n).filter fun b=>decide (a<b)).map fun b:Nat=>((a:Int),(b:Int))
def allE(n:Nat):List (Int×Int):=(List.range n).flatMap (rowE n)
theorem mem_allE{n:Nat}{e:Int×Int}:e∈allE n↔0<=e.1/\e.1<e.2/\e.2<n:=by
 unfold allE rowE;simp only[List.mem_flatMap,zR,zB,zQ,decide_eq_true_eq];constructor
 ·rintro⟨a,h,b,⟨i,c⟩,rfl⟩;simp only[];omega
 ·rintro⟨d,f,g⟩;exact⟨e.1.toNat,by omega,e.2.toNat,⟨by omega,by omega⟩,Prod.ext (by simp only[];omega) (by simp only[];omega)⟩
theorem allE_sorted(n:Nat):(allE n).Pairwise ltE:=by
 unfold allE;refine List.pairwise_flatMap.2 ⟨fun a _=>?_,?_⟩
 ·unfold rowE;refine List.pairwise_map.2 ?_;refine List.Pairwise.filter _ ?_;refine List.pairwise_lt_range.imp fun {x y} h=>?_
  unfold ltE;exact .inr ⟨rfl,by simp only[];omega⟩
 ·refine List.pairwise_lt_range.imp fun {x y} h p hp q hq=>?_
  unfold rowE at hp hq;obtain⟨_,_,rfl⟩:=zB.1 hp;obtain⟨_,_,rfl⟩:=zB.1 hq;unfold ltE;exact .inl (by simp only[];omega)
open Classical in
theorem Surf.edges_are{N:Int}{T:List T3}(hs:Surf N T):EdgesIs T ((allE N.toNat).filter fun e=>decide (∃c,c<3*T.length/\e=ek T c)):=by
 refine⟨(allE_sorted _).filter _,fun e=>?_⟩;rw[zQ,decide_eq_true_eq,mem_allE];refine⟨fun h=>h.2,fun h=>⟨?_,h⟩⟩;obtain⟨c,hc,rfl⟩:=h;have h1:=hs.rng _ hc;have h2:=hs.rng _ (Zam hc);have h3:=hs.loop _ hc;have h0:=hs.n0;unfold ek;simp only[];omega
section
variable {T X : List T3} {C : List (Int×Int)} {n a b : Nat}
