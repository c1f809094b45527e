/- Arguments that are bodies. -/
import Derived.Test.YtpbdcppaiafbgaaGreatFP
set_option maxRecDepth 100000
set_option maxHeartbeats 8000000
namespace Go.Words
open Go Go.RowKit Go.Deep Go.ChangeShapes Go.WideShapes Go.Joins Go.Proofs.YtpbdcppaiafbgaaGreat Go.Mesh
section
variable {H : Type} {enc : TypeId×Value -> H} {P : Program} {w : World} {base : Nat} {spare : Nat -> Bool} {held : Bool}
theorem soup_cells{t e q:TypeId}{f0 f1:Field}{fuel:Nat}{u0 u1:Value}{x:DataW H×List MemPlace}(ht:P.underlying t=some (.struct #[f0,f1]))(ho0:f0.offset=0)(ho1:f1.offset=1)(hc0:P.cellsOf f0.type=1)(hc1:P.cellsOf f1.type=1)
  (h0:P.underlying f0.type=some (.int .i64)) (h1:P.underlying f1.type=some (.slice e)) (hc:P.cellsOf e=3) (he:P.underlying e=some (.array 3 q)) (hq:P.underlying q=some (.int .i64)) (hcq:P.cellsOf q=1)
  (h:DataW.trod enc P w base spare held fuel t [u0,u1]=some x):∃N T,u0=.int .i64 N/\I64 N/\Sl 3 RTri w w.heap.size u1 T:=by
 obtain⟨a,v,s,u,n,b,f⟩:=DataW.trod_struct ht h;have c:=f 0 f0 rfl;have d:=f 1 f1 rfl;rw[ho0,hc0]at c;rw[ho1,hc1]at d;have p:a[0]? = some (a[0]'(by rw[b];simp)):=zG _;have r:a[1]? = some (a[1]'(by rw[b];simp)):=zG _;rw[p]at c;rw[r]at d;obtain⟨N,l,_,i⟩:=DataW.trod_int h0 c;obtain⟨o,T,g,m⟩:=tris_of h1 hc he hq hcq d;have j:u0=.int .i64 N:=by simpa using l
 have k:u1=o:=by simpa using g
 subst k;exact⟨N,T,j,bounds_i64 i,m⟩
theorem body_of{t e e2 e3 q:TypeId}{f0 f1 f2 a0 a1:Field}{r:Reach}{b0:Nat}{v:Value}{d:DataW H}{ps:List MemPlace}(ht:P.underlying t=some (.struct #[f0,f1,f2]))(hct:P.cellsOf t=4)
  (ho0:f0.offset=0) (ho1:f1.offset=2) (ho2:f2.offset=3) (hc0:P.cellsOf f0.type=2) (hc1:P.cellsOf f1.type=1) (hc2:P.cellsOf f2.type=1)
  (hs:P.underlying f0.type=some (.struct #[a0,a1])) (hp0:a0.offset=0) (hp1:a1.offset=1) (hd0:P.cellsOf a0.type=1) (hd1:P.cellsOf a1.type=1)
  (h0:P.underlying a0.type=some (.int .i64)) (h1:P.underlying a1.type=some (.slice e)) (hc:P.cellsOf e=3) (he:P.underlying e=some (.array 3 q)) (hq:P.underlying q=some (.int .i64)) (hcq:P.cellsOf q=1)
  (h2:P.underlying f1.type=some (.slice e2)) (hce2:P.cellsOf e2=3) (he2:P.underlying e2=some (.array 3 q)) (h3:P.underlying f2.type=some (.slice e3)) (hce3:P.cellsOf e3=1) (he3:P.underlying e3=some (.int .i64))
  (hval:Value.okWide P w r b0 t v) (hd:DataW.Trod enc P w base spare held t v d ps) :
  ∃N sv pv g T i K,v=.agg #[.int .i64 N,sv,pv,g]/\I64 N/\Sl 3 RTri w w.heap.size sv T/\Sl 3 RTri w w.heap.size pv i/\Sl 1 RInt w w.heap.size g K:=by
 obtain⟨o,rfl,h⟩:=okWide_struct ht hval;obtain⟨x,C⟩:=hd;rw[hct]at h;obtain⟨b,n,_,_,D,f,a⟩:=DataW.trod_struct ht C;obtain⟨l,rfl⟩:∃l:List Value,o=l.toArray:=⟨o.toList,by simp⟩;have s:l.length=4:=by simpa using h
 match l,s with
 | [u0,u1,u2,u3],_ =>
  have c:(Value.cells (.agg [u0,u1,u2,u3].toArray)).toList=[u0,u1,u2,u3]:=rfl;rw[c]at a;have j:=a 0 f0 rfl;have k:=a 1 f1 rfl;have m:=a 2 f2 rfl;rw[ho0,hc0]at j;rw[ho1,hc1]at k;rw[ho2,hc2]at m;have E:b[0]? = some (b[0]'(by rw[f];simp)):=zG _;have F:b[1]? = some (b[1]'(by rw[f];simp)):=zG _;have G:b[2]? = some (b[2]'(by rw[f];simp)):=zG _;rw[E]at j;rw[F]at k;rw[G]at m;obtain⟨N,T,rfl,z,B⟩:=soup_cells hs hp0 hp1 hd0 hd1 h0 h1 hc he hq hcq j;obtain⟨pv,i,u,A⟩:=tris_of h2 hce2 he2 hq hcq k;obtain⟨g,K,p,y⟩:=ints_of h3 hce3 he3 m;have e2:u2=pv:=by simpa using u
  have e3:u3=g:=by simpa using p
  subst e2;subst e3;exact⟨N,u1,u2,u3,T,i,K,rfl,z,B,A,y⟩
end
end Go.Words
namespace Go.Proofs.YtpbdcppaiafbgaaGreat
open Go.ChangeShapes Go.WideShapes Go.ChangeAt Go.RowKit Go.Words Go.Deep Go.Joins Go.Mesh
section
variable {H : Type} {enc : TypeId×Value -> H} {w : World} {base : Nat} {spare : Nat -> Bool} {held : Bool}
theorem Zn5{r:Reach}{b0:Nat}{v:Value}{d:DataW H}{ps:List MemPlace}(hval:Value.okWide Tryz.prog w r b0 67 v)(hd:DataW.Trod enc Tryz.prog w base spare held 67 v d ps) :
  ∃N sv pv kv T Ps K,v=.agg #[.int .i64 N,sv,pv,kv]/\I64 N/\Sl 3 RTri w w.heap.size sv T/\Sl 3 RTri w w.heap.size pv Ps/\Sl 1 RInt w w.heap.size kv K :=
 body_of (e:=57) (e2:=74) (e3:=3) (q:=3) Tryz.underlying67 (by kernel_rfl) rfl rfl rfl (by kernel_rfl) (by kernel_rfl) (by kernel_rfl) Tryz.underlying24 rfl rfl (by kernel_rfl) (by kernel_rfl) Tryz.underlying3 Tryz.underlying22 (by kernel_rfl) Tryz.underlying57 Tryz.underlying3 (by kernel_rfl)
  Tryz.underlying65 (by kernel_rfl) Tryz.underlying74 Tryz.underlying28 (by kernel_rfl) Tryz.underlying3 hval hd
