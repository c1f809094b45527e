/- Words for memory: a block that is known whole, a slice that. -/
import Derived.WalkKit
import Derived.Test.YtpbdcppaiafbgaaGreatCanon
import Derived.Maps.AppendAt
import Derived.Deep.AppendLies
import Derived.Deep.Draws
import Derived.Lib.Hide
namespace Go
theorem zw(w:World)(a:Addr):w.drew.cell? a=w.cell? a:=World.cell?_drew w a
theorem zr(B:Nat)(w:World):RowKit.Below B w w:=RowKit.Below.refl B w
theorem zn(w:World)(base:Nat)(e:TypeId)(size:Nat):w.ownsRow base e size (Value.slice none 0 0) 0 []:=World.ownsRow_nil w base e size
end Go
namespace Go.Words
open Go Go.RowKit
def Bk(w:World)(g:Nat)(t:TypeId)(cs:List Value):Prop:=w.heap[g]? = some (.cells cs.toArray t (0,0))
section
variable {w w' : World} {g : Nat} {t : TypeId} {cs : List Value}
theorem Bk.lt(h:Bk w g t cs):g<w.heap.size:=(Array.getElem?_eq_some_iff.1 h).1
theorem Bk.cell(h:Bk w g t cs)(i:Nat):w.cell? ⟨g,i,none⟩=cs[i]?:=by
 rw[cell_of_row w g i cs.toArray t (0,0) h];simp
theorem Bk.frozen(h:Bk w g t cs)(i:Nat):w.frozen? ⟨g,i,none⟩=false:=by
 unfold Bk at h;simp[World.frozen?,h]
theorem Bk.new(w:World)(t:TypeId)(cs:List Value):Bk (w.alloc (.cells cs.toArray t)) w.heap.size t cs:=heap_alloc_new w _
theorem Bk.new'{w:World}{n:Nat}(t:TypeId)(cs:List Value)(hn:n=w.heap.size):Bk (w.alloc (.cells cs.toArray t)) n t cs:=by subst hn;exact heap_alloc_new w _
theorem Bk.drew(h:Bk w g t cs):Bk w.drew g t cs:=h
theorem Bk.drewN(h:Bk w g t cs)(n:Nat):Bk (w.drewN n) g t cs:=h
theorem Bk.alloc(h:Bk w g t cs)(o:Obj):Bk (w.alloc o) g t cs:=(Below.heap_alloc w o g h.lt).trans h
theorem Bk.set(h:Bk w g t cs)(i:Nat)(u:Value):Bk (w.setCell ⟨g,i,none⟩ u) g t (cs.set i u):=by
 unfold Bk at h ⊢;simp[World.setCell,Array.getElem?_modify,h]
theorem Bk.far(h:Bk w g t cs){p:Addr}(hp:g≠p.block)(u:Value):Bk (w.setCell p u) g t cs:=(Below.heap_setCell w p u g hp).trans h
theorem Bk.below{B:Nat}(h:Bk w g t cs)(hb:Below B w w')(hg:g<B):Bk w' g t cs:=(hb.block g hg).trans h
theorem Bk.grown{row:Option Nat}(h:Bk w g t cs)(hb:w.grownBy w' row)(hg:some g≠row):Bk w' g t cs:=(hb.block g h.lt hg).trans h
end
theorem zaxq{a b:Bool}(h:a=b):Ending.returned (.bool a)=.returned (.bool b):=by rw[h]
theorem Zb3{a b:Int}(h:a=b):Ending.returned (.int .i64 a)=.returned (.int .i64 b):=by rw[h]
theorem zacq{B:Nat}{a w:World}(h:Below B a w):Canon.KeepU (· < B) a w:=h.block
theorem zaiq{B:Nat}{a w:World}(h:Below B a w)(n:Nat):Below B a (w.drewN n):=⟨h.os,h.tape,h.output,h.size,h.block⟩
theorem zapq{B:Nat}{a w w':World}(h:Below B a w)(hb:Below w.heap.size w w')(hB:B<=w.heap.size):Below B a w':=h.trans (hb.mono hB)
theorem Zbg{P:Program}{fn:Func}{p:Tmp}{ty:TypeId}(h:fn.results=#[.cell p ty]){R:Ending->World->Prop}{a:Act}{w:World}{g:Nat}{t:TypeId}{cs:List Value}{d:TypeDesc}
  (hp:a.tmps.getD p undef=.pointer (some ⟨g,0,none⟩)) (hg:Bk w g t cs) (hu:P.underlying ty=some d)
  (hd:(match d with | .struct _ | .array _ _=>true|_=>false)=true) (hi:(P.info? ty).map (·.size)=some cs.length) (hde:a.defers=[])
  (hR:R (.returned (.agg cs.toArray)) w):bodyPost P fn R .ret a w :=
 bodyPost_ret (results_cell_row h a.tmps w g t cs.toArray (0,0) d hp hg hu hd (by simpa using hi)) hde hR
abbrev Rep(α:Type):=World->Nat->α->List Value->Prop
structure Keeps {α : Type} (R : Rep α) : Prop where
 keep:∀ {w w':World} {B B':Nat} {a:α} {cs:List Value},R w B a cs->Below B w w'->B<=B'->R w' B' a cs
def RInt:Rep Int:=fun _ _ n cs=>cs=[.int .i64 n]
theorem zadq:Keeps RInt:=⟨fun h _ _=>h⟩
def Zaz:Rep (Int×Int):=fun _ _ b cs=>cs=[.int .i64 b.1,.int .i64 b.2]
theorem Zaa:Keeps Zaz:=⟨fun h _ _=>h⟩
def Sl{α:Type}(sz:Nat)(R:Rep α)(w:World)(B:Nat)(v:Value)(l:List α):Prop :=
 ∃A cap,v=.slice A l.length cap/\l.length<=cap/\∀i a,l[i]? = some a->∃b o cs,A=some ⟨b,o,none⟩/\b<B/\cs.length=sz/\R w B a cs /\
  ∀j u,cs[j]? = some u->w.cell? ⟨b,o+i*sz+j,none⟩=some u
section
variable {α : Type} {sz : Nat} {R : Rep α} {w w' : World} {B B' : Nat} {v : Value} {l : List α}
theorem Sl.keep(h:Sl sz R w B v l)(hR:Keeps R)(hb:Below B w w')(hB:B<=B'):Sl sz R w' B' v l:=by
 obtain⟨A,c,rfl,n,q⟩:=h;refine⟨A,c,rfl,n,fun i a hi=>?_⟩;obtain⟨b,o,d,e,f,g,k,m⟩:=q i a hi;exact⟨b,o,d,e,by omega,g,hR.keep k hb hB,fun j u hu=>(hb.cell (p:=⟨b,o+i*sz+j,none⟩) f).trans (m j u hu)⟩
theorem Sl.drew(h:Sl sz R w B v l)(hR:Keeps R):Sl sz R w.drew B v l:=h.keep hR (Below.refl _ _).drew zl
theorem Sl.after(h:Sl sz R w B v l)(hR:Keeps R)(hb:Below w.heap.size w w')(hB:B<=w.heap.size):Sl sz R w' B v l:=h.keep hR (hb.mono hB) zl
theorem Sl.below(h:Sl sz R w B v l)(hR:Keeps R)(hb:Below B w w'):Sl sz R w' B v l:=h.keep hR hb zl
theorem Sl.nil(w:World)(B:Nat):Sl sz R w B (.slice none 0 0) []:=⟨none,0,rfl,zl,fun i a h=>by simp at h⟩
theorem Sl.at_{A:Option Addr}{n cap i:Nat}{a:α}(h:Sl sz R w B (.slice A n cap) l)(hi:l[i]? = some a) :
  ∃b o cs,A=some ⟨b,o,none⟩/\b<B/\cs.length=sz/\R w B a cs/\∀j u,cs[j]? = some u->w.cell? ⟨b,o+i*sz+j,none⟩=some u:=by
 obtain⟨f,c,e,_,d⟩:=h;injection e with h1 h2 h3;subst h1;exact d i a hi
theorem Sl.form(h:Sl sz R w B v l):∃A a,v=.slice A l.length a/\l.length<=a:=by
 obtain⟨A,a,b,c,_⟩:=h;exact⟨A,a,b,c⟩
theorem Sl.len{A:Option Addr}{n cap:Nat}(h:Sl sz R w B (.slice A n cap) l):n=l.length/\n<=cap:=by
 obtain⟨d,a,c,b,_⟩:=h;injection c with h1 h2 h3;subst h2;subst h3;exact⟨rfl,b⟩
theorem Sl.drop{A:Option Addr}{n cap k:Nat}(h:Sl sz R w B (.slice A n cap) l)(hk:k<=n) :
  Sl sz R w B (.slice (if cap=k then A else A.map (·.add (k*sz))) (n-k) (cap-k)) (l.drop k):=by
 obtain⟨m,q⟩:=h.len;refine⟨_,_,by rw[List.length_drop,m],by rw[List.length_drop];omega,fun i a hi=>?_⟩;rw[List.getElem?_drop]at hi;have p:k+i<l.length:=(zS.1 hi).1;obtain⟨b,o,c,rfl,d,e,f,g⟩:=h.at_ hi;refine⟨b,o+k*sz,c,?_,d,e,f,fun j u hu=>?_⟩
 ·rw[if_neg (by omega)];simp[Addr.add_lit]
 ·have:=g j u hu;rw[Nat.add_mul]at this;rw[show o+k*sz+i*sz+j=o+(k*sz+i*sz)+j from by omega];exact this
theorem Sl.take{A:Option Addr}{n cap k:Nat}(h:Sl sz R w B (.slice A n cap) l)(hk:k<=n):Sl sz R w B (.slice A k cap) (l.take k):=by
 obtain⟨c,b⟩:=h.len;refine⟨A,cap,by rw[List.length_take];congr 1;omega,by rw[List.length_take];omega,fun i a hi=>?_⟩;rw[List.getElem?_take]at hi
 split at hi
 ·exact h.at_ hi
 ·cases hi
theorem Sl.of_own{base:Nat}{e:TypeId}{xs:List Value}(h:w.ownsRow base e sz v l.length xs)
  (hx:∀i a,l[i]? = some a->R w w.heap.size a ((xs.drop (i*sz)).take sz)):Sl sz R w w.heap.size v l:=by
 obtain⟨c,p⟩:=h;rcases p with⟨rfl,o⟩|⟨g,d,f,rfl,s,k,n,q,r,b⟩
 ·have:l=[]:=List.eq_nil_of_length_eq_zero o;subst this;exact Sl.nil _ _
 ·refine⟨_,d,rfl,n,fun i a hi=>?_⟩;have m:i<l.length:=(zS.1 hi).1;have t:i*sz+sz<=l.length*sz:=by rw[<- Nat.succ_mul];exact Nat.mul_le_mul_right _ m
  refine⟨g,0,_,rfl,(Array.getElem?_eq_some_iff.1 k).1,?_,hx i a hi,fun j u hu=>?_⟩
  ·rw[List.length_take,List.length_drop,c];omega
  ·rw[List.getElem?_take]at hu
   split at hu
   ·rename_i hj;rw[List.getElem?_drop,<- b,List.getElem?_take,if_pos (by omega)]at hu;rw[cell_of_row w g _ f e (0,0) k,Nat.zero_add];simpa using hu
   ·cases hu
theorem Sl.of_block{g cap:Nat}{t:TypeId}{cs:List Value}(h:Bk w g t cs)(hc:l.length<=cap)
  (hx:∀i a,l[i]? = some a->(i*sz+sz<=cs.length)/\R w w.heap.size a ((cs.drop (i*sz)).take sz)):Sl sz R w w.heap.size (.slice (some ⟨g,0,none⟩) l.length cap) l:=by
 refine⟨_,cap,rfl,hc,fun i a hi=>?_⟩;obtain⟨c,b⟩:=hx i a hi;refine⟨g,0,_,rfl,h.lt,?_,b,fun j u hu=>?_⟩
 ·rw[List.length_take,List.length_drop];omega
 ·rw[List.getElem?_take]at hu
  split at hu
  ·rw[List.getElem?_drop]at hu;rw[h.cell,Nat.zero_add];exact hu
  ·cases hu
end
section
variable {w w' : World} {base : Nat} {e e' : TypeId} {size size' n n' : Nat} {v v' : Value} {xs xs' : List Value}
theorem zafq(h:w.ownsRow base e size v n xs){B:Nat}(hb:Below B w w')(hB:w.heap.size<=B):w'.ownsRow base e size v n xs:=by
 refine⟨h.1,?_⟩;rcases h.2 with d|⟨g,a,b,i,f,c,r⟩
 ·exact .inl d
 ·exact .inr ⟨g,a,b,i,f,by rw[hb.block g (Nat.lt_of_lt_of_le (Array.getElem?_eq_some_iff.1 c).1 hB)];exact c,r⟩
theorem zalq{base':Nat}(h:w.ownsRow base e size v n xs)(hb:base'<=base):w.ownsRow base' e size v n xs:=by
 refine⟨h.1,?_⟩;rcases h.2 with c|⟨g,a,b,d,f,r⟩
 ·exact .inl c
 ·exact .inr ⟨g,a,b,d,by omega,r⟩
theorem zaeq(h:w.ownsRow base e size v n xs):∃A a,v=.slice A n a/\n<=a:=by
 rcases h.2 with⟨rfl,rfl⟩|⟨g,a,c,rfl,_,_,b,_⟩
 ·exact⟨_,_,rfl,zl⟩
 ·exact⟨_,_,rfl,b⟩
theorem Zbi(h:w.ownsRow base e size v n xs)(h':w.ownsRow base e' size' v' n' xs')(hne:e≠e'):v'.ownBlock=none\/v'.ownBlock≠v.ownBlock:=by
 rcases h'.2 with⟨rfl,_⟩|⟨d,b,c,rfl,_,a,_⟩
 ·exact .inl rfl
 ·refine .inr fun he=>?_
  rcases h.2 with⟨rfl,_⟩|⟨g,i,j,rfl,_,f,_⟩
  ·simp[Value.ownBlock]at he
  ·have:d=g:=by simpa[Value.ownBlock]using he
   subst this;rw[f]at a;injection a with h1;injection h1 with _ h2;exact hne h2
end
theorem zajq{P:Program}(w:World){ops:Array Oper}{rest:List Oper}{o:Oper}{a:Act}{Q:Exit->Act->World->Prop}(hgd:o.guard=none)(s x:Operand)(t:TypeId)
  (ho:o.op=.call { callee:=.builtin .append,args:=#[s,x],argTypes:=#[t,t] }) (base:Nat) {e:TypeId} {z:Value} {size bytes:Nat}
  (hinfo:(P.info? e).map (fun i=>(i.zero,i.size,i.bytes))=some (some z,size,bytes)) (ht:P.underlying t=some (.slice e)) (hzs:z.cells.size=size) (hsz:0<size)
  (v:Value) (n:Nat) (xs:List Value) (hs:a.eval s=v) (hown:w.ownsRow base e size v n xs)
  (g:Nat) {te:TypeId} (news:List Value) (hx:a.eval x=.slice (some ⟨g,0,none⟩) 1 1) (hg:Bk w g te news) (hl:news.length=size) (h1:∀u∈news,u.oneCell'=true)
  (hn:n<1000000000) (hby:bytes<=1000) (hbase:base<=w.heap.size)
  (h:∀b c,c.ownsRow base e size b (n+1) (xs++news)->Below base w c->w.grownBy c v.ownBlock->(b.ownBlock=v.ownBlock\/b.ownBlock=some w.heap.size)->wpList P ops Q rest (a.put o.dst b) c) :
  wpList P ops Q (o::rest) a w:=by
 obtain⟨A,hi,l,m,p⟩:=info_parts hinfo;have f:(n+1)*bytes<=140737488355328:=by
  have:(n+1)*bytes<=1000000000*1000:=Nat.mul_le_mul (by omega) hby;omega
 refine wpList_append_own_at w hgd s x t ho base e A z size bytes ht hi l m p hzs hsz v n xs hs hown ⟨g,0,none⟩ 1 1 news hx (by omega) ?_ h1 (by unfold maxLen;omega) f hbase ?_
 ·intro j u y;rw[Addr.add_lit,hg.cell,Nat.zero_add];exact y
 ·intro b c q d _ r;exact h b c q ((Below.refl base w).grown d hbase fun k hk=>(hown.lt k hk).1) d r
section
variable {w : World} {B n cap k : Nat} {A : Option Addr}
theorem Sl.int_at{l:List Int}(h:Sl 1 RInt w B (.slice A n cap) l)(hk:k<l.length) :
  ∃b o,A=some ⟨b,o,none⟩/\b<B/\w.cell? ⟨b,o+k,none⟩=some (.int .i64 l[k]):=by
 obtain⟨b,o,f,c,d,g,a,e⟩:=h.at_ (zG hk);unfold RInt at a;subst a;exact⟨b,o,c,d,by simpa using e 0 _ rfl⟩
theorem Sl.pair_at{l:List (Int×Int)}(h:Sl 2 Zaz w B (.slice A n cap) l)(hk:k<l.length) :
  ∃b o,A=some ⟨b,o,none⟩/\b<B/\w.cell? ⟨b,o+k*2,none⟩=some (.int .i64 l[k].1)/\w.cell? ⟨b,o+k*2+1,none⟩=some (.int .i64 l[k].2):=by
 obtain⟨b,o,f,d,e,g,a,c⟩:=h.at_ (zG hk);unfold Zaz at a;subst a;exact⟨b,o,d,e,by simpa using c 0 _ rfl,c 1 _ rfl⟩
