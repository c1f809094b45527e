/- Words for maps: a block that is a map with known entries. -/
import Derived.Test.YtpbdcppaiafbgaaGreatWords
import Derived.Maps.OwnSet
import Derived.Laws.MakeOwn
import Derived.Laws.OwnMore
import Derived.Test.YtpbdcppaiafbgaaGreatProg
import Derived.DeepKeys4
import Derived.MapViews
namespace Go.Words
open Go Go.RowKit Go.Maps Go.MapKept Go.ChangeMaps
structure KeyT (P : Program) (k : TypeId) {κ : Type} (enc : κ -> Value) (ok : κ -> Prop) : Prop where
 keyed:Keyed P k
 reads:∀x,ok x->∃kl,keyOf P k (enc x)=some kl
 inj:∀x y,ok x->ok y->enc x=enc y->x=y
section plain
variable {κ α : Type} [DecidableEq κ]
def look:List (κ×α)->κ->Option α
 | [],_=>none
 | p::l,x=>if p.1=x then some p.2 else look l x
def put:List (κ×α)->κ->α->List (κ×α)
 | [],x,v=>[(x,v)]
 | p::l,x,v=>if p.1=x then(x,v)::l else p::put l x v
theorem look_put_same(l:List (κ×α))(x:κ)(v:α):look (put l x v) x=some v:=by
 induction l with
 | nil=>simp[put,look]
 | cons p l ih =>
  unfold put
  split
  ·simp[look]
  ·rename_i h;simp[look,h,ih]
theorem Zwy(l:List (κ×α)){x y:κ}(v:α)(h:x≠y):look (put l x v) y=look l y:=by
 induction l with
 | nil=>simp[put,look,h]
 | cons p l ih =>
  unfold put
  split
  ·rename_i h1;subst h1;simp[look,h]
  ·simp[look,ih]
theorem look_put(l:List (κ×α))(x y:κ)(v:α):look (put l x v) y=if x=y then some v else look l y:=by
 split
 ·rename_i h;subst h;exact look_put_same l x v
 ·rename_i h;exact Zwy l v h
theorem zayq(l:List (κ×α))(x:κ):(look l x).isSome=true↔x∈l.map (·.1):=by
 induction l with
 | nil=>simp[look]
 | cons p l ih =>
  unfold look
  split
  ·rename_i h;simp[h]
  ·rename_i h;rw[ih];simp only[List.map_cons,List.mem_cons];exact⟨.inr,fun h'=>h'.resolve_left fun e=>h e.symm⟩
theorem Zgv(l:List (κ×α))(x:κ):look l x=none↔x ∉ l.map (·.1):=by
 rw[<- zayq,Bool.not_eq_true,Option.isSome_eq_false_iff,Option.isNone_iff_eq_none]
theorem Zq8{l:List (κ×α)}{x:κ}(v:α)(h:x ∉ l.map (·.1)):put l x v=l++[(x,v)]:=by
 induction l with
 | nil=>rfl
 | cons p l ih =>
  simp only[List.map_cons,List.mem_cons,not_or]at h;unfold put;rw[if_neg fun e=>h.1 e.symm,ih h.2];rfl
theorem Zyl{l:List (κ×α)}{x:κ}(v:α){j:Nat}(hj:j<l.length)(hx:l[j].1=x)(hn:∀i (h:i<l.length),i≠j->l[i].1≠x):put l x v=l.set j (x,v):=by
 induction l generalizing j with
 | nil=>simp at hj
 | cons p l ih =>
  unfold put;cases j with
  | zero=>rw[if_pos (show p.1=x from hx),List.set_cons_zero]
  | succ j =>
   have a:p.1≠x:=hn 0 (by simp) (by omega);rw[if_neg a,List.set_cons_succ,ih (by simpa using hj) hx fun i h hne=>hn (i+1) (by simpa using h) (by omega)]
theorem Zwx{l:List (κ×α)}{x:κ}(v:α)(h:x∈l.map (·.1)):(put l x v).length=l.length:=by
 induction l with
 | nil=>simp at h
 | cons p l ih =>
  unfold put
  split
  ·rfl
  ·rename_i h1;simp only[List.map_cons,List.mem_cons]at h;rw[List.length_cons,ih (h.resolve_left fun e=>h1 e.symm),List.length_cons]
theorem Znv{l:List (κ×α)}{x:κ}(v:α)(h:x ∉ l.map (·.1)):(put l x v).length=l.length+1:=by
 rw[Zq8 v h];simp
theorem length_put_le(l:List (κ×α))(x:κ)(v:α):(put l x v).length<=l.length+1:=by
 by_cases h:x∈l.map (·.1)
 ·rw[Zwx v h];omega
 ·rw[Znv v h];omega
theorem keys_put{l:List (κ×α)}{x:κ}(v:α)(y:κ):y∈(put l x v).map (·.1)↔y=x\/y∈l.map (·.1):=by
 rw[<- zayq,look_put,<- zayq];by_cases h:x=y
 ·simp[h]
 ·rw[if_neg h];exact⟨.inr,fun h'=>h'.resolve_left fun e=>h e.symm⟩
theorem Zjd{l:List (κ×α)}{x:κ}(v:α)(h:(l.map (·.1)).Nodup):((put l x v).map (·.1)).Nodup:=by
 by_cases c:x∈l.map (·.1)
 ·have:(put l x v).map (·.1)=l.map (·.1):=by
   clear h
   induction l with
   | nil=>simp at c
   | cons p l ih =>
    unfold put
    split
    ·rename_i h1;simp[h1]
    ·rename_i h1;simp only[List.map_cons,List.mem_cons]at c;rw[List.map_cons,ih (c.resolve_left fun e=>h1 e.symm),List.map_cons]
  rw[this];exact h
 ·rw[Zq8 v c,List.map_append];exact List.nodup_append.2 ⟨h,by simp,fun a ha b hb e=>by simp at hb;subst hb;exact c (e ▸ ha)⟩
end plain
section
variable {P : Program} {k : TypeId} {κ α : Type} {enc : κ -> Value} {ok : κ -> Prop} {ev : α -> Value} {w w' : World} {b : Nat} {l : List (κ×α)}
structure Mp (enc : κ -> Value) (ok : κ -> Prop) (ev : α -> Value) (w : World) (b : Nat) (l : List (κ×α)) : Prop where
 block:∃es clock,w.heap[b]? = some (.map es clock)/\Stamped es clock/\es.toList.map (fun e=>(e.key,e.val))=l.map fun p=>(enc p.1,ev p.2)
 keys:∀p∈l,ok p.1
 nodup:(l.map (·.1)).Nodup
theorem Mp.lt(h:Mp enc ok ev w b l):b<w.heap.size:=by
 obtain⟨d,a,c,_⟩:=h.block;exact(Array.getElem?_eq_some_iff.1 c).1
theorem Mp.keep(h:Mp enc ok ev w b l)(hb:w'.heap[b]? = w.heap[b]?):Mp enc ok ev w' b l:=by
 obtain⟨c,a,d,f,e⟩:=h.block;exact⟨⟨c,a,hb.trans d,f,e⟩,h.keys,h.nodup⟩
theorem Mp.below{B:Nat}(h:Mp enc ok ev w b l)(hb:Below B w w')(hg:b<B):Mp enc ok ev w' b l:=h.keep (hb.block b hg)
theorem Mp.grown{row:Option Nat}(h:Mp enc ok ev w b l)(hb:w.grownBy w' row)(hg:some b≠row):Mp enc ok ev w' b l:=h.keep (hb.block b h.lt hg)
theorem Mp.alloc(h:Mp enc ok ev w b l)(o:Obj):Mp enc ok ev (w.alloc o) b l:=h.keep (Below.heap_alloc w o b h.lt)
theorem Mp.drew(h:Mp enc ok ev w b l):Mp enc ok ev w.drew b l:=⟨h.block,h.keys,h.nodup⟩
theorem Mp.far(h:Mp enc ok ev w b l){p:Addr}(hp:b≠p.block)(u:Value):Mp enc ok ev (w.setCell p u) b l:=h.keep (Below.heap_setCell w p u b hp)
theorem Mp.new(w:World):Mp enc ok ev (w.alloc (.map #[] 0)) w.heap.size ([]:List (κ×α)) :=
 ⟨⟨#[],0,(MapKept.heap_alloc w _).1,stamped_empty 0,rfl⟩,fun _ h=>(List.not_mem_nil h).elim,List.nodup_nil⟩
theorem Mp.new'{n:Nat}(hn:n=w.heap.size):Mp enc ok ev (w.alloc (.map #[] 0)) n ([]:List (κ×α)):=by subst hn;exact Mp.new w
theorem Mp.no_row(h:Mp enc ok ev w b l){base:Nat}{e:TypeId}{size n:Nat}{v:Value}{xs:List Value}(hv:w.ownsRow base e size v n xs):some b≠v.ownBlock:=by
 obtain⟨k,c,d,_⟩:=h.block;rcases hv.2 with⟨rfl,_⟩|⟨g,i,j,rfl,_,a,_⟩
 ·simp[Value.ownBlock]
 ·intro f;have:b=g:=by simpa[Value.ownBlock]using f
  subst this;rw[d]at a;cases a
theorem Zd5{es:Array MapEntry}(hl:es.toList.map (fun e=>(e.key,e.val))=l.map fun p=>(enc p.1,ev p.2)){j:Nat}{e0:MapEntry}(h:es.toList[j]? = some e0):∃c:j<l.length,e0.key=enc l[j].1/\e0.val=ev l[j].2:=by
 have b:(es.toList.map (fun e=>(e.key,e.val)))[j]? = some (e0.key,e0.val):=by rw[zJ,h];rfl
 rw[hl,zJ]at b;obtain⟨p,d,a⟩:=Option.map_eq_some_iff.1 b;obtain⟨c,rfl⟩:=zS.1 d;simp only[Prod.mk.injEq]at a;exact⟨c,a.1.symm,a.2.symm⟩
theorem Zir{es:Array MapEntry}(K:KeyT P k enc ok)(hl:es.toList.map (fun e=>(e.key,e.val))=l.map fun p=>(enc p.1,ev p.2))(hk:∀p∈l,ok p.1):∀e∈es.toList,∃kl,keyOf P k e.key=some kl:=by
 intro e c;obtain⟨j,d⟩:=List.mem_iff_getElem?.1 c;obtain⟨a,b,_⟩:=Zd5 hl d;rw[b];exact K.reads _ (hk _ (zM a))
theorem look_at[DecidableEq κ]{l:List (κ×α)}(hn:(l.map (·.1)).Nodup){j:Nat}(hj:j<l.length):look l l[j].1=some l[j].2:=by
 induction l generalizing j with
 | nil=>simp at hj
 | cons p l ih =>
  rw[List.map_cons,List.nodup_cons]at hn;cases j with
  | zero=>simp[look]
  | succ j =>
   simp only[List.getElem_cons_succ];have a:p.1≠(l[j]'(by simpa using hj)).1:=fun e=>hn.1 (e ▸ List.mem_map_of_mem (zM _))
   unfold look;rw[if_neg a];exact ih hn.2 (by simpa using hj)
theorem Mp.look_run[DecidableEq κ](h:Mp enc ok ev w b l)(K:KeyT P k enc ok){t e:TypeId}(ht:P.underlying t=some (.map k e)){z:Value}(hz:(zeroValue e).run P w=.ok z w){x:κ}(hx:ok x)(c:Bool) :
  (Instr.lookup t (.map (some b)) (enc x) c).run P w=.ok (if c then .tuple #[((look l x).map ev).getD z,.bool (look l x).isSome]else((look l x).map ev).getD z) w:=by
 obtain⟨o,v,q,D,d⟩:=h.block;obtain⟨F,a⟩:=K.reads x hx;rcases K.keyed.find w a o.toList (Zir K d h.keys)with⟨g,i⟩|⟨j,E,g,i,y⟩
 ·have s:look l x=none:=by
   rw[Zgv];intro B;obtain⟨p,C,rfl⟩:=zB.1 B;obtain⟨j,n,rfl⟩:=zE C;have f:j<o.toList.length:=by
    have:=congrArg List.length d;simp only[zL]at this;omega
   obtain⟨_,m,_⟩:=Zd5 d (zG f);exact i _ (zM f) m
  rw[s];simp[Instr.lookup,run_underlying ht,MapKept.run_getObj_map q,K.keyed.check w _ a,g,hz,Result.andThen]
 ·obtain⟨n,m,A⟩:=Zd5 d i;have u:l[j].1=x:=K.inj _ _ (h.keys _ (zM n)) hx (m.symm.trans y);have r:look l x=some l[j].2:=by rw[<- u];exact look_at h.nodup n
  rw[r];simp[Instr.lookup,run_underlying ht,MapKept.run_getObj_map q,K.keyed.check w _ a,g,Result.andThen,A]
theorem Mp.put_run[DecidableEq κ](h:Mp enc ok ev w b l)(K:KeyT P k enc ok){t e:TypeId}(ht:P.underlying t=some (.map k e)){x:κ}(hx:ok x)(v:α) :
  ∃w',(Instr.mapUpdate t (.map (some b)) (enc x) (ev v)).run P w=.ok () w'/\Mp enc ok ev w' b (put l x v)/\w.grownBy w' (some b)/\w'.heap.size=w.heap.size:=by
 obtain⟨s,a,c,B,r⟩:=h.block;obtain⟨Q,g⟩:=K.reads x hx;have f:∀p∈put l x v,ok p.1:=by
  intro p H;rcases(keys_put v p.1).1 (List.mem_map_of_mem H)with u|G
  ·rw[u];exact hx
  ·obtain⟨q,N,u⟩:=zB.1 G;rw[<- u];exact h.keys _ N
 have d:∀o,w.grownBy (setBlock w b o) (some b):=fun o=>⟨rfl,rfl,rfl,by simp[setBlock],fun i _ hi=>heap_setBlock_other c _ (fun e=>hi (by rw[e]))⟩
 have m:∀o,(setBlock w b o).heap.size=w.heap.size:=fun o=>by simp[setBlock]
 rcases K.keyed.find w g s.toList (Zir K r h.keys)with⟨D,n⟩|⟨j,L,D,n,E⟩
 ·have J:x ∉ l.map (·.1):=by
   intro G;obtain⟨p,H,rfl⟩:=zB.1 G;obtain⟨j,y,rfl⟩:=zE H;have A:j<s.toList.length:=by
    have:=congrArg List.length r;simp only[zL]at this;omega
   obtain⟨_,F,_⟩:=Zd5 r (zG A);exact n _ (zM A) F
  refine⟨setBlock w b (.map (s.push ⟨enc x,ev v,a⟩) (a+1)),?_,⟨⟨_,_,heap_setBlock_same c _,stamped_push B n,?_⟩,f,Zjd v h.nodup⟩,d _,m _⟩
  ·simp[Instr.mapUpdate,run_underlying ht,MapKept.run_getObj_map c,K.keyed.check w false g,D,MapKept.run_setObj_map _ c,Result.andThen,setBlock]
  ·rw[Zq8 v J,Array.toList_push,List.map_append,List.map_append,r];rfl
 ·obtain⟨y,F,O⟩:=Zd5 r n;have C:l[j].1=x:=K.inj _ _ (h.keys _ (zM y)) hx (F.symm.trans E);have z:s[j]? = some L:=by simpa using n
  refine⟨setBlock w b (.map (s.modify j (fun e'=>{ e' with key:=enc x,val:=ev v })) a),?_,⟨⟨_,_,heap_setBlock_same c _,stamped_modify B _ _ (fun _ _=>rfl) (fun e' _ he'=>by rw[z]at he';cases he';exact E.symm),?_⟩,f,Zjd v h.nodup⟩,d _,m _⟩
  ·simp[Instr.mapUpdate,run_underlying ht,MapKept.run_getObj_map c,K.keyed.check w false g,D,z,E,K.keyed.stays w g,MapKept.run_setObj_map _ c,Result.andThen,setBlock]
  ·rw[Zyl v y C fun i hi hne u=>hne ?_,Array.toList_modify,modify_eq_set _ _ _ _ n,List.map_set,List.map_set,r];have I:=h.nodup;have M:(l.map (·.1))[i]'(by simpa using hi)=(l.map (·.1))[j]'(by simpa using y):=by
    rw[List.getElem_map,List.getElem_map,u,C]
   exact(List.getElem_inj I).1 M
theorem Mp.len_run(h:Mp enc ok ev w b l){t e:TypeId}(ht:P.underlying t=some (.map k e))(ty:TypeId):(Builtin.len_ #[t] ty #[.map (some b)]).run P w=.ok (.int .i64 l.length) w:=by
 obtain⟨d,a,f,i,g⟩:=h.block;have c:d.size=l.length:=by
  have:=congrArg List.length g;simpa using this
 simp[Builtin.len_,run_underlying ht,MapKept.run_getObj_map f,goInt,Result.andThen,c]
end
section
variable {P : Program} (w : World) {ops : Array Oper} {rest : List Oper} {o : Oper} {a : Act} {Q : Exit -> Act -> World -> Prop}
variable {κ α : Type} [DecidableEq κ] {enc : κ -> Value} {ok : κ -> Prop} {ev : α -> Value}
theorem zanq(hg:o.guard=none)(m x:Operand)(t:TypeId)(hop:o.op=Op.lookup t m x false)(k e:TypeId)(K:KeyT P k enc ok)(ht:P.underlying t=some (.map k e)){z:Value}(hz:∀w,(zeroValue e).run P w=.ok z w)
  (b:Nat) (l:List (κ×α)) (hm:a.eval m=.map (some b)) (hown:Mp enc ok ev w b l) (key:κ) (hx:a.eval x=enc key) (hkey:ok key)
  (hK:wpList P ops Q rest (a.put o.dst (((look l key).map ev).getD z)) w):wpList P ops Q (o::rest) a w:=by
 refine wpList_plain hg fun K' hK'=>?_
 have c:=hown.look_run K ht (hz w) hkey false;unfold Oper.wp;simp[execOp,hop,hm,hx,c,Result.andThen];exact hK' _ _ hK
theorem Zeb(hg:o.guard=none)(m x:Operand)(t:TypeId)(hop:o.op=Op.lookup t m x true)(k e:TypeId)(K:KeyT P k enc ok)(ht:P.underlying t=some (.map k e)){z:Value}(hz:∀w,(zeroValue e).run P w=.ok z w)
  (b:Nat) (l:List (κ×α)) (hm:a.eval m=.map (some b)) (hown:Mp enc ok ev w b l) (key:κ) (hx:a.eval x=enc key) (hkey:ok key)
  (hK:wpList P ops Q rest (a.put o.dst (.tuple #[((look l key).map ev).getD z,.bool (look l key).isSome])) w):wpList P ops Q (o::rest) a w:=by
 refine wpList_plain hg fun K' hK'=>?_
 have c:=hown.look_run K ht (hz w) hkey true;unfold Oper.wp;simp[execOp,hop,hm,hx,c,Result.andThen];exact hK' _ _ hK
theorem zbdq(hg:o.guard=none)(m x v:Operand)(t:TypeId)(hop:o.op=Op.mapUpdate t m x v)(k e:TypeId)(K:KeyT P k enc ok)(ht:P.underlying t=some (.map k e))
  (b:Nat) (l:List (κ×α)) (hm:a.eval m=.map (some b)) (hown:Mp enc ok ev w b l) (key:κ) (hx:a.eval x=enc key) (hkey:ok key) (val:α) (hv:a.eval v=ev val)
  (hK:∀c,Mp enc ok ev c b (put l key val)->w.grownBy c (some b)->c.heap.size=w.heap.size->wpList P ops Q rest (a.put o.dst undef) c):wpList P ops Q (o::rest) a w:=by
 refine wpList_plain hg fun K' hK'=>?_
 obtain⟨c,d,f,g,h⟩:=hown.put_run K ht hkey val;unfold Oper.wp;simp[execOp,hop,hm,hx,hv,d,Result.andThen];exact hK' _ _ (hK c f g h)
end
theorem wpList_len{P:Program}(w:World){ops:Array Oper}{rest:List Oper}{o:Oper}{a:Act}{Q:Exit->Act->World->Prop}{κ α:Type}{enc:κ->Value}{ok:κ->Prop}{ev:α->Value}(hg:o.guard=none)(m:Operand)(t:TypeId)(hop:o.op=Op.call { callee:=Callee.builtin Builtin.len,args:=#[m],argTypes:=#[t] })(k e:TypeId)(ht:P.underlying t=some (.map k e))
  (b:Nat) (l:List (κ×α)) (hm:a.eval m=.map (some b)) (hown:Mp enc ok ev w b l)
  (hK:wpList P ops Q rest (a.put o.dst (.int .i64 l.length)) w):wpList P ops Q (o::rest) a w:=by
 refine wpList_plain hg fun K' hK'=>?_
 unfold Oper.wp;simp[execOp,hop,resolve,invoke,builtin,hm,hown.len_run ht o.type,Result.andThen];exact hK' _ _ hK
open Go Go.RowKit Go.Maps Go.MapKept Go.ChangeMaps
section
variable {P : Program} {k : TypeId} {κ α : Type} {enc : κ -> Value} {ok : κ -> Prop} {ev : α -> Value} {w w' : World} {b : Nat} {l : List (κ×α)}
def StampAt(enc:κ->Value)(w:World)(b:Nat)(x:κ)(s:Int):Prop:=∃es clock e,∃j:Nat,w.heap[b]? = some (.map es clock)/\es[j]? = some e/\e.key=enc x/\(e.born:Int)=s
theorem StampAt.grown{x:κ}{s:Int}{row:Option Nat}(h:StampAt enc w b x s)(hb:w.grownBy w' row)(hg:some b≠row):StampAt enc w' b x s:=by
 obtain⟨d,a,e,j,c,f⟩:=h;exact⟨d,a,e,j,(hb.block b (Array.getElem?_eq_some_iff.1 c).1 hg).trans c,f⟩
def ent[DecidableEq κ](l:List (κ×α))(x:κ)(z:α):List (κ×α):=if(look l x).isSome then l else l++[(x,z)]
theorem Mp.entry_run[DecidableEq κ](h:Mp enc ok ev w b l)(K:KeyT P k enc ok){t e:TypeId}(ht:P.underlying t=some (.map k e))(z:α)(hz:(zeroValue e).run P w=.ok (ev z) w){x:κ}(hx:ok x) :
  ∃s w',(Instr.mapEntry t (.map (some b)) (enc x)).run P w=.ok (.tuple #[ev ((look l x).getD z),.int .i64 s]) w'/\Mp enc ok ev w' b (ent l x z)/\StampAt enc w' b x s/\w.grownBy w' (some b)/\w'.heap.size=w.heap.size:=by
 obtain⟨g,d,m,H,A⟩:=h.block;obtain⟨S,r⟩:=K.reads x hx;have q:∀o,w.grownBy (setBlock w b o) (some b):=fun o=>⟨rfl,rfl,rfl,by simp[setBlock],fun i _ hi=>heap_setBlock_other m _ (fun e=>hi (by rw[e]))⟩
 have y:∀o,(setBlock w b o).heap.size=w.heap.size:=fun o=>by simp[setBlock]
 rcases K.keyed.find w r g.toList (Zir K A h.keys)with⟨J,B⟩|⟨j,I,J,B,D⟩
 ·have G:x ∉ l.map (·.1):=by
   intro Q;obtain⟨p,n,rfl⟩:=zB.1 Q;obtain⟨j,M,rfl⟩:=zE n;have F:j<g.toList.length:=by
    have:=congrArg List.length A;simp only[zL]at this;omega
   obtain⟨_,L,_⟩:=Zd5 A (zG F);exact B _ (zM F) L
  have f:=(Zgv l x).2 G;refine⟨d,setBlock w b (.map (g.push ⟨enc x,ev z,d⟩) (d+1)),?_,⟨⟨_,_,heap_setBlock_same m _,stamped_push H B,?_⟩,?_,?_⟩,⟨_,_,⟨enc x,ev z,d⟩,g.size,heap_setBlock_same m _,by simp,rfl,rfl⟩,q _,y _⟩
  ·simp[Instr.mapEntry,run_underlying ht,MapKept.run_getObj_map m,K.keyed.check w false r,J,hz,MapKept.run_setObj_map _ m,Result.andThen,setBlock,f,goInt]
  ·unfold ent;rw[f,Array.toList_push,List.map_append,A];simp
  ·intro p n;unfold ent at n;rw[f]at n;rcases zP.1 n with n|n
   ·exact h.keys _ n
   ·have:p=(x,z):=by simpa using n
    rw[this];exact hx
  ·unfold ent;rw[f];simp only[Option.isSome_none,Bool.false_eq_true,if_false,List.map_append];exact List.nodup_append.2 ⟨h.nodup,by simp,fun a ha c hc e=>by simp at hc;subst hc;exact G (e ▸ ha)⟩
 ·obtain⟨M,L,O⟩:=Zd5 A B;have N:l[j].1=x:=K.inj _ _ (h.keys _ (zM M)) hx (L.symm.trans D);have f:look l x=some l[j].2:=by rw[<- N];exact look_at h.nodup M
  have C:g[j]? = some I:=by simpa using B
  have u:(g.modify j (fun e'=>{ e' with key:=enc x }))=g:=by
   apply Array.ext_getElem?;intro i;rw[Array.getElem?_modify];by_cases E:j=i
   ·subst E;rw[if_pos rfl,C];simp only[Option.map_some,Option.some.injEq];rw[<- D]
   ·rw[if_neg E]
  refine⟨I.born,setBlock w b (.map g d),?_,⟨⟨_,_,heap_setBlock_same m _,H,?_⟩,?_,?_⟩,⟨_,_,I,j,heap_setBlock_same m _,C,D,rfl⟩,q _,y _⟩
  ·have R:∀v:Value,v=enc x->(g.modify j (fun e'=>{ e' with key:=v }))=g:=fun v hv=>by rw[hv];exact u
   simp[Instr.mapEntry,run_underlying ht,MapKept.run_getObj_map m,K.keyed.check w false r,J,C,D,K.keyed.stays w r,MapKept.run_setObj_map _ m,Result.andThen,setBlock,f,goInt,u,O]
  ·unfold ent;rw[f];simpa using A
  ·unfold ent;rw[f];exact h.keys
  ·unfold ent;rw[f];exact h.nodup
theorem Mp.stamp_run[DecidableEq κ](h:Mp enc ok ev w b l)(K:KeyT P k enc ok){t:TypeId}{x:κ}(hx:ok x){s:Int}(hs:StampAt enc w b x s)(v:α) :
  ∃w',(Instr.entryStore t (.map (some b)) (.int .i64 s) (ev v)).run P w=.ok () w'/\Mp enc ok ev w' b (put l x v)/\w.grownBy w' (some b)/\w'.heap.size=w.heap.size:=by
 obtain⟨a,g,d,z,I⟩:=h.block;obtain⟨S,D,E,j,c,u,G,m⟩:=hs;rw[d]at c;injection c with c;injection c with hb1 hb2;subst hb1;have F:a.toList[j]? = some E:=by simpa using u
 obtain⟨C,L,T⟩:=Zd5 I F;have A:l[j].1=x:=K.inj _ _ (h.keys _ (zM C)) hx (L.symm.trans G);have n:a.findIdx? (fun e=>(e.born:Int)==s)=some j:=by
  obtain⟨y,r⟩:=Array.getElem?_eq_some_iff.1 u;rw[Array.findIdx?_eq_some_iff_getElem];refine⟨y,by rw[r];simp[m],fun i hi=>?_⟩;intro M;have H:a[i].born=E.born:=by
   have:(a[i].born:Int)=s:=by simpa using M
   omega
  have O:=z.2.1;have B:(a.toList.map (·.born))[i]'(by simp;omega)=(a.toList.map (·.born))[j]'(by simpa using y):=by
   simp only[List.getElem_map,Array.getElem_toList];rw[H,r]
  have:=(List.getElem_inj O).1 B;omega
 have o:∀p∈put l x v,ok p.1:=by
  intro p Q;rcases(keys_put v p.1).1 (List.mem_map_of_mem Q)with f|N
  ·rw[f];exact hx
  ·obtain⟨q,R,f⟩:=zB.1 N;rw[<- f];exact h.keys _ R
 refine⟨setBlock w b (.map (a.modify j (fun e'=>{ e' with val:=ev v })) g),?_,⟨⟨_,_,heap_setBlock_same d _,stamped_modify z _ _ (fun _ _=>rfl) (fun _ _ _=>rfl),?_⟩,o,Zjd v h.nodup⟩,
  ⟨rfl,rfl,rfl,by simp[setBlock],fun i _ hi=>heap_setBlock_other d _ (fun e=>hi (by rw[e]))⟩,by simp[setBlock]⟩
 ·simp[Instr.entryStore,MapKept.run_getObj_map d,asInt,asIntOf,n,MapKept.run_setObj_map _ d,Result.andThen,setBlock]
 ·rw[Zyl v C A fun i hi hne f=>hne ?_,Array.toList_modify,modify_eq_set _ _ _ _ F,List.map_set,List.map_set,I]
  ·rw[G]
  ·have J:=h.nodup;have B:(l.map (·.1))[i]'(by simpa using hi)=(l.map (·.1))[j]'(by simpa using C):=by
    rw[List.getElem_map,List.getElem_map,f,A]
   exact(List.getElem_inj J).1 B
end
section
variable {P : Program} (w : World) {ops : Array Oper} {rest : List Oper} {o : Oper} {a : Act} {Q : Exit -> Act -> World -> Prop}
variable {κ α : Type} [DecidableEq κ] {enc : κ -> Value} {ok : κ -> Prop} {ev : α -> Value}
theorem wpList_entry(hg:o.guard=none)(m x:Operand)(t:TypeId)(hop:o.op=Op.mapEntry t m x)(k e:TypeId)(K:KeyT P k enc ok)(ht:P.underlying t=some (.map k e))(z:α)(hz:∀w,(zeroValue e).run P w=.ok (ev z) w)
  (b:Nat) (l:List (κ×α)) (hm:a.eval m=.map (some b)) (hown:Mp enc ok ev w b l) (key:κ) (hx:a.eval x=enc key) (hkey:ok key)
  (hK:∀s c,Mp enc ok ev c b (ent l key z)->StampAt enc c b key s->w.grownBy c (some b)->c.heap.size=w.heap.size->wpList P ops Q rest (a.put o.dst (.tuple #[ev ((look l key).getD z),.int .i64 s])) c):wpList P ops Q (o::rest) a w:=by
 refine wpList_plain hg fun K' hK'=>?_
 obtain⟨s,c,d,f,g,h,i⟩:=hown.entry_run K ht z (hz w) hkey;unfold Oper.wp;simp[execOp,hop,hm,hx,d,Result.andThen];exact hK' _ _ (hK s c f g h i)
theorem wpList_stamp(hg:o.guard=none)(m x v:Operand)(t:TypeId)(hop:o.op=Op.entryStore t m x v)(k:TypeId)(K:KeyT P k enc ok)
  (b:Nat) (l:List (κ×α)) (hm:a.eval m=.map (some b)) (hown:Mp enc ok ev w b l) (key:κ) (s:Int) (hs:StampAt enc w b key s) (hx:a.eval x=.int .i64 s) (hkey:ok key) (val:α) (hv:a.eval v=ev val)
  (hK:∀c,Mp enc ok ev c b (put l key val)->w.grownBy c (some b)->c.heap.size=w.heap.size->wpList P ops Q rest (a.put o.dst undef) c):wpList P ops Q (o::rest) a w:=by
 refine wpList_plain hg fun K' hK'=>?_
 obtain⟨c,d,e,f,g⟩:=hown.stamp_run K (t:=t) hkey hs val;unfold Oper.wp;simp[execOp,hop,hm,hx,hv,d,Result.andThen];exact hK' _ _ (hK c e f g)
end
def encI(n:Nat):Value:=.int .i64 (n:Int)
structure Fam (w : World) (base : Nat) (e : TypeId) (vs : List Value) (Ls : List (List Nat)) : Prop where
 len:vs.length=Ls.length
 own:∀i (h:i<vs.length) (h':i<Ls.length),w.ownsRow base e 1 vs[i] Ls[i].length (Ls[i].map encI)
 apart:∀i j (h:i<vs.length) (h':j<vs.length),i≠j->vs[i].ownBlock=none\/vs[i].ownBlock≠vs[j].ownBlock
section
variable {w w' : World} {base : Nat} {e : TypeId} {vs : List Value} {Ls : List (List Nat)}
theorem Fam.nil(w:World)(base:Nat)(e:TypeId):Fam w base e [] []:=⟨rfl,fun i h=>by simp at h,fun i j h=>by simp at h⟩
theorem Fam.kept(h:Fam w base e vs Ls){row:Option Nat}(hg:w.grownBy w' row)(hr:∀i (hi:i<vs.length),vs[i].ownBlock=none\/vs[i].ownBlock≠row):Fam w' base e vs Ls :=
 ⟨h.len,fun i h1 h2=>(h.own i h1 h2).kept hg (hr i h1),h.apart⟩
theorem Fam.below(h:Fam w base e vs Ls){B:Nat}(hb:Below B w w')(hB:w.heap.size<=B):Fam w' base e vs Ls:=⟨h.len,fun i h1 h2=>zafq (h.own i h1 h2) hb hB,h.apart⟩
theorem Fam.not_map(h:Fam w base e vs Ls){b:Nat}{es:Array MapEntry}{clock:Nat}(hb:w.heap[b]? = some (.map es clock)):∀i (hi:i<vs.length),vs[i].ownBlock=none\/vs[i].ownBlock≠some b:=by
 intro i hi;rcases(h.own i hi (by rw[<- h.len];exact hi)).2 with⟨a,_⟩|⟨g,f,j,a,_,c,_⟩
 ·left;rw[a];rfl
 ·right;rw[a];intro d;have:g=b:=by simpa[Value.ownBlock]using d
  subst this;rw[hb]at c;cases c
theorem Fam.not_type(h:Fam w base e vs Ls){b:Nat}{cs:Array Value}{t:TypeId}{fr:Nat×Nat}(hb:w.heap[b]? = some (.cells cs t fr))(hne:t≠e):∀i (hi:i<vs.length),vs[i].ownBlock=none\/vs[i].ownBlock≠some b:=by
 intro i hi;rcases(h.own i hi (by rw[<- h.len];exact hi)).2 with⟨c,_⟩|⟨g,f,j,c,_,a,_⟩
 ·left;rw[c];rfl
 ·right;rw[c];intro d;have:g=b:=by simpa[Value.ownBlock]using d
  subst this;rw[hb]at a;injection a with a;injection a with _ h2;exact hne h2
theorem Fam.set(h:Fam w base e vs Ls){i:Nat}(hi:i<vs.length){v':Value}{L':List Nat}(hown:w'.ownsRow base e 1 v' L'.length (L'.map encI))(hg:w.grownBy w' vs[i].ownBlock)(b:v'.ownBlock=vs[i].ownBlock\/∃k,v'.ownBlock=some k/\w.heap.size<=k) :
  Fam w' base e (vs.set i v') (Ls.set i L'):=by
 have q:∀j (f:j<vs.length) k,vs[j].ownBlock=some k->k<w.heap.size:=fun j f k p=>((h.own j f (by rw[<- h.len];exact f)).lt k p).2
 have d:∀j (f:j<vs.length),j≠i->vs[j].ownBlock=none\/vs[j].ownBlock≠v'.ownBlock:=by
  intro j f l;rcases b with b|⟨k,b,p⟩
  ·rw[b];exact h.apart j i f hi l
  ·cases r:vs[j].ownBlock with
   | none=>exact .inl rfl
   | some g =>
    right;rw[b];intro o;injection o with o;have:=q j f g r;omega
 refine⟨by simp[h.len],fun j h1 h2=>?_,fun j m h1 h2 l=>?_⟩
 ·simp only[List.length_set]at h1 h2;rw[List.getElem_set,List.getElem_set];by_cases a:i=j
  ·rw[if_pos a,if_pos a];exact hown
  ·rw[if_neg a,if_neg a];exact(h.own j h1 h2).kept hg (h.apart j i h1 hi (fun e=>a e.symm))
 ·simp only[List.length_set]at h1 h2;rw[List.getElem_set,List.getElem_set];by_cases a:i=j
  ·rw[if_pos a];by_cases c:i=m
   ·omega
   ·rw[if_neg c];rcases d m h2 (fun e=>c e.symm)with n|n
    ·cases s:v'.ownBlock with
     | none=>exact .inl rfl
     | some g=>right;rw[n];simp
    ·exact .inr fun e=>n e.symm
  ·rw[if_neg a];by_cases c:i=m
   ·rw[if_pos c];exact d j h1 (fun e=>a e.symm)
   ·rw[if_neg c];exact h.apart j m h1 h2 l
theorem Fam.snoc_nil(h:Fam w base e vs Ls):Fam w base e (vs++[.slice none 0 0]) (Ls++[[]]):=by
 have b:=h.len;refine⟨by simp[b],fun i h1 h2=>?_,fun i j h1 h2 hne=>?_⟩
 ·by_cases hi:i<vs.length
  ·rw[List.getElem_append_left hi,List.getElem_append_left (by omega)];exact h.own i hi (by omega)
  ·have:i=vs.length:=by simp at h1;omega
   subst this;rw[List.getElem_append_right (by omega),List.getElem_append_right (by omega)];simp[zn]
 ·by_cases hi:i<vs.length
  ·rw[List.getElem_append_left hi];by_cases a:j<vs.length
   ·rw[List.getElem_append_left a];exact h.apart i j hi a hne
   ·rw[List.getElem_append_right (by omega)];cases c:vs[i].ownBlock with
    | none=>exact .inl rfl
    | some g=>right;simp[Value.ownBlock]
  ·rw[List.getElem_append_right (by omega)];simp[Value.ownBlock]
theorem Fam.nils(w:World)(base:Nat)(e:TypeId)(n:Nat):Fam w base e (List.replicate n (.slice none 0 0)) (List.replicate n []) :=
 ⟨by simp,fun i h h'=>by simp[zn],fun i j h h' _=>by simp[Value.ownBlock]⟩
end
open Go Go.RowKit
def Que(w:World)(base:Nat)(e:TypeId)(v:Value)(xs:List Nat):Prop :=
 ∃g off cap cur,v=.slice (some ⟨g,off,none⟩) xs.length cap/\base<=g/\w.heap[g]? = some (.cells cur e (0,0))/\xs.length<=cap/\cap<=maxLen/\off+cap<=cur.size/\(cur.toList.drop off).take xs.length=xs.map encI
section
variable {w w' : World} {base : Nat} {e : TypeId} {v : Value} {xs : List Nat}
theorem Que.keep(h:Que w base e v xs)(hb:∀g,v.ownBlock=some g->w'.heap[g]? = w.heap[g]?):Que w' base e v xs:=by
 obtain⟨g,off,a,b,rfl,c,d,r⟩:=h;exact⟨g,off,a,b,rfl,c,(hb g rfl).trans d,r⟩
theorem Que.lt(h:Que w base e v xs):∀g,v.ownBlock=some g->base<=g/\g<w.heap.size:=by
 obtain⟨g,off,f,i,rfl,b,c,r⟩:=h;intro a d;have:g=a:=by simpa[Value.ownBlock]using d
 subst this;exact⟨b,(Array.getElem?_eq_some_iff.1 c).1⟩
theorem Que.below(h:Que w base e v xs){B:Nat}(hb:Below B w w')(hB:w.heap.size<=B):Que w' base e v xs :=
 h.keep fun g hg=>hb.block g (Nat.lt_of_lt_of_le (h.lt g hg).2 hB)
theorem Que.grown(h:Que w base e v xs){row:Option Nat}(hg:w.grownBy w' row)(hne:v.ownBlock≠row):Que w' base e v xs :=
 h.keep fun g hg'=>hg.block g (h.lt g hg').2 (by rw[<- hg'];exact hne)
theorem Que.one(w:World)(e:TypeId)(x:Nat){base:Nat}(hb:base<=w.heap.size):Que (w.alloc (.cells #[encI x] e)) base e (.slice (some ⟨w.heap.size,0,none⟩) 1 1) [x] :=
 ⟨w.heap.size,0,1,#[encI x],rfl,hb,heap_alloc_new w _,zl,by unfold maxLen;omega,zl,rfl⟩
theorem Que.form(h:Que w base e v xs):∃g off a,v=.slice (some ⟨g,off,none⟩) xs.length a/\xs.length<=a:=by
 obtain⟨g,off,a,d,b,_,_,c,_⟩:=h;exact⟨g,off,a,b,c⟩
theorem Que.head{x:Nat}{g off n cap:Nat}(h:Que w base e (.slice (some ⟨g,off,none⟩) n cap) (x::xs)):w.cell? ⟨g,off,none⟩=some (.int .i64 (x:Int)):=by
 obtain⟨k,j,d,c,a,m,f,o,p,q,i⟩:=h;injection a with a _ _;injection a with a;injection a with e1 e2;subst e1;subst e2;rw[cell_of_row w g off c e (0,0) f];have b:=congrArg (fun l=>l[0]?) i;simp only[List.length_cons,List.map_cons,List.getElem?_cons_zero]at b;rw[List.getElem?_take,if_pos (by omega),List.getElem?_drop,Nat.add_zero]at b;simpa[encI]using b
theorem Que.tail{x:Nat}{g off n cap:Nat}(h:Que w base e (.slice (some ⟨g,off,none⟩) n cap) (x::xs)) :
  Que w base e (.slice (some ⟨g,off+1,none⟩) (n-1) (cap-1)) xs/\(cap=1->Que w base e (.slice (some ⟨g,off,none⟩) xs.length 0) xs):=by
 obtain⟨o,m,j,b,a,c,d,k,p,q,f⟩:=h;injection a with a hn hc;injection a with a;injection a with e1 e2;subst e1;subst e2;subst hc;simp only[List.length_cons]at hn k f;refine⟨⟨g,off+1,cap-1,b,by rw[hn,Nat.add_sub_cancel],c,d,by omega,by omega,by omega,?_⟩,fun hc1=>?_⟩
 ·have i:=congrArg (List.drop 1) f;rw[List.drop_take,List.drop_drop]at i;simpa using i
 ·have l:xs=[]:=List.eq_nil_of_length_eq_zero (by omega);subst l;exact⟨g,off,0,b,rfl,c,d,zl,by omega,by omega,by simp⟩
end
theorem Zw5{P:Program}(w:World)(t ty e:TypeId)(i:TypeInfo)(ht:P.underlying t=some (.slice e))(hi:P.info? e=some i)(hs:i.size=1)(g off sLen sCap:Nat)(cur:Array Value)(hg:w.heap[g]? = some (.cells cur e (0,0)))
  (a:Addr) (c:Nat) (x:Value) (hx:w.cell? a=some x) (h1:x.oneCell'=true) (hroom:sLen+1<=sCap) (hfit:off+sLen+1<=cur.size) :
  (Builtin.append_ #[t,t] ty #[.slice (some ⟨g,off,none⟩) sLen sCap,.slice (some a) 1 c]).run P w =
   .ok (.slice (some ⟨g,off,none⟩) (sLen+1) sCap) (w.setRow g (cur.toList.take (off+sLen)++[x]++cur.toList.drop (off+sLen+1)).toArray):=by
 have f:∀j u,[x][j]? = some u->w.cell? (a.add j)=some u:=by
  intro j u d
  match j,d with
  | 0,d=>simp at d;subst d;simpa[Addr.add]using hx
 have h:=run_firstCells_some (P:=P) w i.size 1 a 1 c [x] (by simp[hs]) f;have b:=run_storeCells_at P g (off+sLen*i.size) e [x] 0 cur w hg (by simp[hs];omega) (by simpa using h1);simp only[Nat.add_zero]at b;rw[hs]at h b;rw[Nat.mul_one]at b;simp[Builtin.append_,run_underlying ht,sizeOf,typeInfo,hi,Builtin.lenOf,hroom,hs,h,Addr.add_lit,b]
theorem Zri{P:Program}(w:World){ops:Array Oper}{rest:List Oper}{o:Oper}{a:Act}{Q:Exit->Act->World->Prop}(hgd:o.guard=none)(s x:Operand)(t:TypeId)
  (ho:o.op=.call { callee:=.builtin .append,args:=#[s,x],argTypes:=#[t,t] }) (base:Nat) {e:TypeId} (hinfo:(P.info? e).map (fun i=>(i.zero,i.size,i.bytes))=some (some (.int .i64 0),1,8)) (ht:P.underlying t=some (.slice e))
  (v:Value) (xs:List Nat) (hs:a.eval s=v) (hown:Que w base e v xs) (y:Nat) (ad:Addr) (c:Nat) (hx:a.eval x=.slice (some ad) 1 c) (hy:w.cell? ad=some (.int .i64 (y:Int))) (hn:xs.length<1000000000) (hbase:base<=w.heap.size)
  (h:∀d l,Que l base e d (xs++[y])->w.grownBy l v.ownBlock->(d.ownBlock=v.ownBlock\/d.ownBlock=some w.heap.size)->wpList P ops Q rest (a.put o.dst d) l) :
  wpList P ops Q (o::rest) a w:=by
 obtain⟨G,hi,E,p,F⟩:=info_parts hinfo;have H:∃d l,(Builtin.append_ #[t,t] o.type #[v,.slice (some ad) 1 c]).run P w=.ok d l/\Que l base e d (xs++[y])/\w.grownBy l v.ownBlock/\(d.ownBlock=v.ownBlock\/d.ownBlock=some w.heap.size):=by
  obtain⟨g,off,b,m,rfl,I,A,R,J,S,B⟩:=hown;by_cases z:xs.length+1<=b
  ·have n:=Zw5 (P:=P) w t o.type e G ht hi p g off xs.length b m A ad c (.int .i64 (y:Int)) hy (by simp[Value.oneCell']) z (by omega);refine⟨_,_,n,⟨g,off,b,_,by simp,I,setRow_heap w g m _ e _ A,by simp;omega,J,?_,?_⟩,⟨rfl,rfl,rfl,by simp,fun k _ hk=>setRow_other w g k _ (fun e=>hk (by simp[Value.ownBlock,e]))⟩,.inl rfl⟩
   ·simp;omega
   ·rw[zA,List.map_append,<- B];simp only[List.length_cons,List.length_nil,List.map_cons,List.map_nil];rw[List.append_assoc,List.drop_append_of_le_length (by simp;omega),List.drop_take,show off+xs.length-off=xs.length from by omega];rw[List.take_append,List.take_of_length_le (by simp;omega)];simp only[List.length_take,List.length_drop,Array.length_toList];rw[Nat.min_eq_left (by omega),show xs.length+(0+1)-xs.length=1 from by omega];simp[encI]
  ·have L:b=xs.length:=by omega
   have r:∀j u,(xs.map encI)[j]? = some u->w.cell? ((⟨g,off,none⟩:Addr).add j)=some u:=by
    intro j u f;rw[Addr.add_lit,cell_of_row w g _ m e (0,0) A];rw[<- B,List.getElem?_take]at f
    split at f
    ·rw[List.getElem?_drop]at f;simpa using f
    ·cases f
   have q:∀j u,[Value.int .i64 (y:Int)][j]? = some u->w.cell? (ad.add j)=some u:=by
    intro j u f
    match j,f with
    | 0,f=>simp at f;subst f;simpa[Addr.add]using hy
   have n:=run_append_grow (P:=P) w t o.type e G (.int .i64 0) ht hi E ⟨g,off,none⟩ xs.length b (xs.map encI) (by simp[p]) r ad 1 c [.int .i64 (y:Int)] (by simp[p]) q (by omega) (by omega) (by
    rw[F];exact growslice_fits (by omega) (by omega))
   have D:=grownCap_ge w (xs.length+1) b e;have C:grownCap w (xs.length+1) b e<=maxLen:=grownCap_le_maxLen w (xs.length+1) b e (by unfold maxLen;omega);refine⟨_,_,n,⟨w.heap.size,0,_,_,by simp,hbase,heap_alloc_new w.drew _,by simpa using D,C,?_,?_⟩,⟨rfl,rfl,rfl,by simp,fun k hk _=>Below.heap_alloc w.drew _ k hk⟩,.inr rfl⟩
   ·simp[size_zeroCells,Value.cells];omega
   ·simp only[List.drop_zero,Array.toList_append,List.append_assoc];rw[<- List.append_assoc,List.take_left' (by simp)];simp[encI]
 obtain⟨d,l,n,M,N,O⟩:=H;refine wpList_plain hgd fun K hK=>?_
 unfold Oper.wp execOp;simp only[ho,resolve,invoke,builtin,Sem.run_bind,Sem.run_pure,Result.andThen_ok,List.map_toArray,List.map_cons,List.map_nil,hs,hx,n];exact hK _ _ (h d l M N O)
open Go Go.RowKit Go.Maps
def I64(x:Int):Prop:=-9223372036854775808<=x/\x<=9223372036854775807
theorem I64.wf{x:Int}(h:I64 x):(Lit.int .i64 x).wf=true:=by
 exact WalkArith.wf_i64 h
theorem I64.nat{n:Nat}(h:n<=9223372036854775807):I64 (n:Int):=by unfold I64;omega
def enc1(x:Int):Value:=.int .i64 x
def enc2(x:Int×Int):Value:=.agg #[.int .i64 x.1,.int .i64 x.2]
def enc3(x:Int×Int×Int):Value:=.agg #[.int .i64 x.1,.int .i64 x.2.1,.int .i64 x.2.2]
def ok2(x:Int×Int):Prop:=I64 x.1/\I64 x.2
def ok3(x:Int×Int×Int):Prop:=I64 x.1/\I64 x.2.1/\I64 x.2.2
theorem key_int{P:Program}{k:TypeId}(hk:P.underlying k=some (.int .i64)):KeyT P k enc1 I64 :=
 ⟨int_keyed hk,fun _ hx=>⟨_,keyOf_int_mk hk hx.wf⟩,fun x y _ _ h=>by unfold enc1 at h;injection h⟩
theorem key_lits_int{P:Program}{d:Nat}{k:TypeId}(hk:P.underlying k=some (.int .i64)){x:Int}(hx:I64 x):P.keyLits (d+1) k [.int .i64 x]=some [.int .i64 x]:=by
 unfold Program.keyLits;rw[hk];simp[hx.wf]
theorem Zu3{P:Program}{k e:TypeId}{n:Nat}(hk:P.underlying k=some (.array n e))(he:P.underlying e=some (.int .i64))(hc:P.cellsOf k=n)(hce:P.cellsOf e=1)(hkt:P.keyType k=true)(hsz:1<=P.types.size)
  (xs:List Int) (hn:xs.length=n) (hx:∀x∈xs,I64 x) (hf:(Value.agg (xs.map (Value.int .i64)).toArray).formed P k=true):∃kl,keyOf P k (.agg (xs.map (Value.int .i64)).toArray)=some kl:=by
 unfold keyOf;rw[hk];simp only[hkt,hf,Bool.and_self,if_true];obtain⟨d,m⟩:∃d,P.types.size=d+1:=⟨P.types.size-1,by omega⟩;rw[m];have o:∃b,P.keyLits (d+1+1) k (Value.agg (xs.map (Value.int .i64)).toArray).cells.toList=some b:=by
  unfold Program.keyLits;rw[hk];have c:(Value.agg (xs.map (Value.int .i64)).toArray).cells.toList=xs.map (Value.int .i64):=by simp[Value.cells]
  rw[c];simp only[zL,hn,hc,if_true,hce,Nat.mul_one];have f:∀l:List Nat,(∀i∈l,i<n)->∃b,(l.mapM fun i=>P.keyLits (d+1) e (((xs.map (Value.int .i64)).drop i).take 1))=some b:=by
   intro l
   induction l with
   | nil=>intro _;exact⟨[],rfl⟩
   | cons i l ih =>
    intro h;obtain⟨b,a⟩:=ih fun j hj=>h j (List.mem_cons_of_mem _ hj)
    have hi:i<xs.length:=by rw[hn];exact h i List.mem_cons_self
    have g:((xs.map (Value.int .i64)).drop i).take 1=[.int .i64 xs[i]]:=by
     rw[List.drop_eq_getElem_cons (by simpa using hi)];simp
    refine⟨[.int .i64 xs[i]]::b,?_⟩;rw[List.mapM_cons,g,key_lits_int he (hx _ (zM hi)),a];rfl
  obtain⟨b,a⟩:=f (List.range n) fun i hi=>zR.1 hi
  exact⟨b.flatten,by rw[a];rfl⟩
 obtain⟨b,a⟩:=o;rw[a];exact⟨_,rfl⟩
end Go.Words
namespace Go.Proofs.YtpbdcppaiafbgaaGreat
open Go Go.RowKit Go.Words Go.Maps
theorem laidOut:laidOutB Tryz.prog=true:=by kernel_rfl
theorem law3:Keyed Tryz.prog 56:=Keyed.of_law (deep_law_laid laidOut (m:=2) (by omega) (of_decide_eq_true (by kernel_rfl)) (by kernel_rfl) (by rw[Tryz.underlying56]))
theorem law2:Keyed Tryz.prog 38:=Keyed.of_law (deep_law_laid laidOut (m:=2) (by omega) (of_decide_eq_true (by kernel_rfl)) (by kernel_rfl) (by rw[Tryz.underlying38]))
theorem lawE:Keyed Tryz.prog 39:=Keyed.of_law (deep_law_laid laidOut (m:=2) (by omega) (of_decide_eq_true (by kernel_rfl)) (by kernel_rfl) (by rw[Tryz.underlying39]))
theorem cells3:Tryz.prog.cellsOf 56 = 3:=by kernel_rfl
theorem cells2:Tryz.prog.cellsOf 38 = 2:=by kernel_rfl
theorem cellsE:Tryz.prog.cellsOf 39 = 2:=by kernel_rfl
theorem cellsI:Tryz.prog.cellsOf 3 = 1:=by kernel_rfl
theorem types1:1<=Tryz.prog.types.size:=of_decide_eq_true (by kernel_rfl)
theorem keyI:KeyT Tryz.prog 3 enc1 I64:=key_int Tryz.underlying3
theorem key3:KeyT Tryz.prog 56 enc3 ok3 where
 keyed:=law3
 reads:=fun x ⟨h1,h2,h3⟩=>Zu3 (xs:=[x.1,x.2.1,x.2.2]) Tryz.underlying56 Tryz.underlying3 cells3 cellsI (by kernel_rfl) types1 rfl (by simp[h1,h2,h3]) (by simp[Value.formed,Tryz.underlying56,cells3])
 inj:=fun x y _ _ h=>by
  obtain⟨a,b,c⟩:=x;obtain⟨d,e,f⟩:=y;unfold enc3 at h;simp only[Value.agg.injEq]at h;simpa using h
theorem key2:KeyT Tryz.prog 38 enc2 ok2 where
 keyed:=law2
 reads:=fun x ⟨h1,h2⟩=>Zu3 (xs:=[x.1,x.2]) Tryz.underlying38 Tryz.underlying3 cells2 cellsI (by kernel_rfl) types1 rfl (by simp[h1,h2]) (by simp[Value.formed,Tryz.underlying38,cells2])
 inj:=fun x y _ _ h=>by
  obtain⟨a,b⟩:=x;obtain⟨c,d⟩:=y;unfold enc2 at h;simp only[Value.agg.injEq]at h;simpa using h
theorem keyE:KeyT Tryz.prog 39 enc2 ok2 where
 keyed:=lawE
 reads:=fun x ⟨h1,h2⟩=>Zu3 (xs:=[x.1,x.2]) Tryz.underlying39 Tryz.underlying3 cellsE cellsI (by kernel_rfl) types1 rfl (by simp[h1,h2]) (by simp[Value.formed,Tryz.underlying39,cellsE])
 inj:=fun x y _ _ h=>by
  obtain⟨a,b⟩:=x;obtain⟨c,d⟩:=y;unfold enc2 at h;simp only[Value.agg.injEq]at h;simpa using h
theorem Ztd(w:World):(zeroValue 28).run Tryz.prog w=.ok (.slice none 0 0) w:=by kernel_rfl
theorem Zbq(w:World):(zeroValue 4).run Tryz.prog w=.ok (.bool false) w:=by kernel_rfl
theorem Zcp(w:World):(zeroValue 3).run Tryz.prog w=.ok (.int .i64 0) w:=by kernel_rfl
end Go.Proofs.YtpbdcppaiafbgaaGreat
namespace Go.Words
open Go Go.RowKit
section
variable {κ : Type} {w w' : World} {base : Nat} {e : TypeId} {lm : List (κ×Value)} {G : List (κ×List Nat)}
structure GRows (w : World) (base : Nat) (e : TypeId) (lm : List (κ×Value)) (G : List (κ×List Nat)) : Prop where
 keys:lm.map (·.1)=G.map (·.1)
 nodup:(G.map (·.1)).Nodup
 fam:Fam w base e (lm.map (·.2)) (G.map (·.2))
theorem GRows.kept(h:GRows w base e lm G){row:Option Nat}(hg:w.grownBy w' row)(hr:∀i (hi:i<(lm.map Prod.snd).length),((lm.map Prod.snd)[i]'hi).ownBlock=none\/((lm.map Prod.snd)[i]'hi).ownBlock≠row):GRows w' base e lm G :=
 ⟨h.keys,h.nodup,h.fam.kept hg hr⟩
theorem GRows.below(h:GRows w base e lm G){B:Nat}(hb:Below B w w')(hB:w.heap.size<=B):GRows w' base e lm G:=⟨h.keys,h.nodup,h.fam.below hb hB⟩
theorem GRows.nil(w:World)(base:Nat)(e:TypeId):GRows w base e ([]:List (κ×Value)) []:=⟨rfl,List.nodup_nil,Fam.nil _ _ _⟩
end
section
variable {κ : Type} [DecidableEq κ] {w w' : World} {base : Nat} {e : TypeId} {lm : List (κ×Value)} {G : List (κ×List Nat)}
def rowOf(G:List (κ×List Nat))(x:κ):List Nat:=(look G x).getD []
def valOf(lm:List (κ×Value))(x:κ):Value:=(look lm x).getD (.slice none 0 0)
theorem Zsy{α:Type}{l:List (κ×α)}{x:κ}(h:x∈l.map (·.1)):∃j,∃b:j<l.length,l[j].1=x/\look l x=some l[j].2/\∀i (_:i<l.length),i<j->l[i].1≠x:=by
 induction l with
 | nil=>simp at h
 | cons p l ih =>
  by_cases a:p.1=x
  ·exact⟨0,by simp,a,by simp[look,a],fun i _ hi=>by omega⟩
  ·simp only[List.map_cons,List.mem_cons]at h;obtain⟨j,b,c,d,f⟩:=ih (h.resolve_left fun e=>a e.symm);refine⟨j+1,by simpa using b,by simpa using c,by simp[look,a,d],fun i hi hij=>?_⟩;cases i with
   | zero=>simpa using a
   | succ i=>simpa using f i (by simpa using hi) (by omega)
theorem GRows.at_(h:GRows w base e lm G){x:κ}(hx:x∈G.map (·.1)):∃j,∃h1:j<lm.length,∃h2:j<G.length,lm[j].1=x/\G[j].1=x/\look lm x=some lm[j].2/\look G x=some G[j].2/\(∀i (hi:i<lm.length),i≠j->lm[i].1≠x)/\(∀i (hi:i<G.length),i≠j->G[i].1≠x):=by
 obtain⟨j,f,b,n,_⟩:=Zsy hx;have q:lm.length=G.length:=by have:=congrArg List.length h.keys;simpa using this
 have k:∀i (hi:i<lm.length),lm[i].1=(G[i]'(by omega)).1:=fun i hi=>by
  have:(lm.map (·.1))[i]'(by simpa using hi)=(G.map (·.1))[i]'(by simp;omega):=by simp only[h.keys]
  simpa using this
 have c:∀i (hi:i<G.length),i≠j->G[i].1≠x:=fun i hi hne he=>hne ((List.getElem_inj (h₀:=by simpa using hi) (h₁:=by simpa using f) h.nodup).1 (by simp[he,b]))
 have d:∀i (hi:i<lm.length),i≠j->lm[i].1≠x:=fun i hi hne=>by rw[k i hi];exact c i (by omega) hne
 have a:j<lm.length:=by omega
 refine⟨j,a,f,by rw[k j a,b],b,?_,n,d,c⟩;have l:x∈lm.map (·.1):=by rw[h.keys];exact hx
 obtain⟨m,g,o,p,_⟩:=Zsy l;have:m=j:=Decidable.byContradiction fun hne=>d m g hne o
 subst this;exact p
theorem GRows.row(h:GRows w base e lm G)(x:κ):w.ownsRow base e 1 (valOf lm x) (rowOf G x).length ((rowOf G x).map encI):=by
 unfold valOf rowOf;by_cases a:x∈G.map (·.1)
 ·obtain⟨j,d,f,_,_,b,c,_⟩:=h.at_ a;rw[b,c];have:=h.fam.own j (by simpa using d) (by simpa using f);simpa using this
 ·rw[(Zgv G x).2 a,(Zgv lm x).2 (by rw[h.keys];exact a)];exact zn _ _ _ _
theorem GRows.ent(h:GRows w base e lm G)(x:κ):GRows w base e (ent lm x (.slice none 0 0)) (ent G x []):=by
 unfold Words.ent;by_cases b:x∈G.map (·.1)
 ·rw[if_pos ((zayq lm x).2 (by rw[h.keys];exact b)),if_pos ((zayq G x).2 b)];exact h
 ·rw[if_neg (by rw[zayq,h.keys];exact b),if_neg (by rw[zayq];exact b)];refine⟨by simp[h.keys],?_,?_⟩
  ·rw[List.map_append];exact List.nodup_append.2 ⟨h.nodup,by simp,fun a ha c hc e=>by simp at hc;subst hc;exact b (e ▸ ha)⟩
  ·rw[List.map_append,List.map_append];exact h.fam.snoc_nil
theorem ent_keys{α:Type}(l:List (κ×α))(x:κ)(z:α)(y:κ):y∈(ent l x z).map (·.1)↔y=x\/y∈l.map (·.1):=by
 unfold Words.ent;by_cases a:x∈l.map (·.1)
 ·rw[if_pos ((zayq l x).2 a)];exact⟨.inr,fun h=>h.elim (fun e=>e ▸ a) id⟩
 ·rw[if_neg (by rw[zayq];exact a)];simp[or_comm]
theorem look_ent{α:Type}(l:List (κ×α))(x y:κ)(z:α):(look (ent l x z) y).getD z=(look l y).getD z:=by
 unfold Words.ent;by_cases a:x∈l.map (·.1)
 ·rw[if_pos ((zayq l x).2 a)]
 ·rw[if_neg (by rw[zayq];exact a),<- Zq8 z a,look_put];by_cases h:x=y
  ·subst h;rw[if_pos rfl,(Zgv l x).2 a];rfl
  ·rw[if_neg h]
theorem GRows.put(h:GRows w base e lm G){x:κ}(hx:x∈G.map (·.1)){v':Value}{L':List Nat}(hown:w'.ownsRow base e 1 v' L'.length (L'.map encI))(hg:w.grownBy w' (valOf lm x).ownBlock)(hat:v'.ownBlock=(valOf lm x).ownBlock\/∃k,v'.ownBlock=some k/\w.heap.size<=k) :
  GRows w' base e (put lm x v') (put G x L'):=by
 obtain⟨j,c,m,d,f,g,q,o,p⟩:=h.at_ hx;have n:valOf lm x=lm[j].2:=by unfold valOf;rw[g];rfl
 rw[n]at hg hat;rw[Zyl v' c d o,Zyl L' m f p];have ek:(G.set j (x,L')).map (·.1)=G.map (·.1):=by
  rw[List.map_set];refine List.ext_getElem (by simp) fun i a b=>?_
  rw[List.getElem_set]
  split
  ·rename_i hij;subst hij;simp[f]
  ·rfl
 have l:(lm.set j (x,v')).map (·.1)=lm.map (·.1):=by
  rw[List.map_set];refine List.ext_getElem (by simp) fun i a b=>?_
  rw[List.getElem_set]
  split
  ·rename_i hij;subst hij;simp[d]
  ·rfl
 refine⟨by rw[l,ek,h.keys],by rw[ek];exact h.nodup,?_⟩;rw[List.map_set,List.map_set];exact h.fam.set (by simpa using c) hown (by simpa using hg) (by simpa using hat)
theorem Zv3(G:List (κ×List Nat))(x y:κ)(L:List Nat):rowOf (put G x L) y=if x=y then L else rowOf G y:=by
 unfold rowOf;rw[look_put]
 split<;>rfl
end
theorem ints_own{w:World}{base:Nat}{e:TypeId}{v:Value}{g:List Nat}(h:w.ownsRow base e 1 v g.length (g.map encI)):Sl 1 RInt w w.heap.size v (g.map fun n:Nat=>(n:Int)):=by
 refine Sl.of_own (by simpa using h) fun i a hi=>?_
 unfold RInt;rw[zJ]at hi;obtain⟨p,c,rfl⟩:=Option.map_eq_some_iff.1 hi;obtain⟨b,rfl⟩:=zS.1 c;rw[Nat.mul_one,List.drop_eq_getElem_cons (by simpa using b)];simp[encI]
