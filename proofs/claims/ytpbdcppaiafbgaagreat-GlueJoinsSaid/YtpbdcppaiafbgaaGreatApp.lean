/- append of a slice that may be nil: one law for both. -/
import Derived.Test.YtpbdcppaiafbgaaGreatWords
namespace Go.Words
open Go Go.RowKit
section
variable {P : Program} {w : World}
theorem Zv4(base:Nat)(t ty e:TypeId)(i:TypeInfo)(ht:P.underlying t=some (.slice e))(hi:P.info? e=some i)(v:Value)(n:Nat)(xs:List Value)(hown:w.ownsRow base e i.size v n xs)(c:Nat) :
  (Builtin.append_ #[t,t] ty #[v,.slice none 0 c]).run P w=.ok v w:=by
 rcases hown.2 with⟨rfl,rfl⟩|⟨g,d,f,rfl,h,l,a,j,k,b⟩
 ·simp[Builtin.append_,run_underlying ht,sizeOf,typeInfo,hi,Builtin.lenOf,Builtin.firstCells]
 ·simp[Builtin.append_,run_underlying ht,sizeOf,typeInfo,hi,Builtin.lenOf,Builtin.firstCells,a,storeCells]
theorem zasq{ops:Array Oper}{rest:List Oper}{o:Oper}{a:Act}{Q:Exit->Act->World->Prop}(hgd:o.guard=none)(s x:Operand)(t:TypeId)
  (ho:o.op=.call { callee:=.builtin .append,args:=#[s,x],argTypes:=#[t,t] })
  (base:Nat) {e:TypeId} {z:Value} {size bytes:Nat} (ht:P.underlying t=some (.slice e))
  (hinfo:(P.info? e).map (fun i=>(i.zero,i.size,i.bytes))=some (some z,size,bytes)) (hzs:z.cells.size=size) (hsz:0<size)
  (v:Value) (n:Nat) (xs:List Value) (hs:a.eval s=v) (hown:w.ownsRow base e size v n xs)
  (ao:Option Addr) (m c:Nat) (news:List Value) (hx:a.eval x=.slice ao m c) (hl:news.length=m*size) (hnone:ao=none->m=0) (hnews:∀ad,ao=some ad->∀j u,news[j]? = some u->w.cell? (ad.add j)=some u) (h1:∀u∈news,u.oneCell'=true)
  (h63:n+m<=1000000000) (hby:bytes<=1000) (hbase:base<=w.heap.size)
  (h:∀v' w',w'.ownsRow base e size v' (n+m) (xs++news)->w.grownBy w' v.ownBlock->Below base w w'->(v'.ownBlock=v.ownBlock\/v'.ownBlock=some w.heap.size)->wpList P ops Q rest (a.put o.dst v') w') :
  wpList P ops Q (o::rest) a w:=by
 obtain⟨l,hi,f,b,g⟩:=info_parts hinfo;cases ao with
 | some ad =>
  have d:(n+m)*bytes<=140737488355328:=by
   have:(n+m)*bytes<=1000000000*1000:=Nat.mul_le_mul h63 hby;omega
  exact wpList_append_own_at w hgd s x t ho base e l z size bytes ht hi f b g hzs hsz v n xs hs hown ad m c news hx hl (hnews ad rfl) h1 (by unfold maxLen;omega) d hbase
   fun v' w' h2 h3 _ h5=>h v' w' h2 h3 ((zr base w).grown h3 hbase fun k hk=>(hown.lt k hk).1) h5
 | none =>
  obtain rfl:m=0:=hnone rfl;obtain rfl:news=[]:=List.eq_nil_of_length_eq_zero (by simpa using hl);subst b;have p:=Zv4 base t o.type e l ht hi v n xs hown c;refine wpList_plain hgd fun K hK=>?_
  unfold Oper.wp execOp;simp only[ho,resolve,invoke,builtin,Sem.run_bind,Sem.run_pure,Result.andThen_ok,List.map_toArray,List.map_cons,List.map_nil,hs,hx,p];exact hK _ _ (h v w (by simpa using hown) ⟨rfl,rfl,rfl,zl,fun _ _ _=>rfl⟩ (zr _ _) (.inl rfl))
