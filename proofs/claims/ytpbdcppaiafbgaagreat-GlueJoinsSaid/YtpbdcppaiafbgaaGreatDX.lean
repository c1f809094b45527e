/- Za6: how far triangles are from one another, over their. -/
import Derived.Test.YtpbdcppaiafbgaaGreatMP
namespace Go.Mesh
def nb(T:List T3)(x k:Nat):Option Nat:=(opp T (3*x+k)).map (· / 3)
def besd(T:List T3)(y x:Nat):Bool:=(nb T y 0==some x)||(nb T y 1==some x)||(nb T y 2==some x)
theorem besd_iff{T:List T3}{y x:Nat}:besd T y x=true↔∃k,k<3/\nb T y k=some x:=by
 unfold besd;simp only[Bool.or_eq_true,beq_iff_eq];constructor
 ·rintro((h|h)|h)
  ·exact⟨0,by omega,h⟩
  ·exact⟨1,by omega,h⟩
  ·exact⟨2,by omega,h⟩
 ·rintro⟨k,a,h⟩;have:k=0\/k=1\/k=2:=by omega
  rcases this with rfl|rfl|rfl
  ·exact .inl (.inl h)
  ·exact .inl (.inr h)
  ·exact .inr h
theorem Surf.nb_rng{N:Int}{T:List T3}(h:Surf N T){x k y:Nat}(hk:k<3)(e:nb T x k=some y):x<T.length/\y<T.length:=by
 unfold nb at e;obtain⟨d,a,rfl⟩:=Option.map_eq_some_iff.1 e;have b:=h.opp_lt a;have c:=(h.opp_iff.1 a).1;omega
theorem Surf.besd_rng{N:Int}{T:List T3}(h:Surf N T){x y:Nat}(e:besd T x y=true):x<T.length/\y<T.length:=by
 obtain⟨k,a,e⟩:=besd_iff.1 e;exact h.nb_rng a e
theorem Surf.besd_symm{N:Int}{T:List T3}(h:Surf N T){x y:Nat}(e:besd T x y=true):besd T y x=true:=by
 obtain⟨k,f,e⟩:=besd_iff.1 e;unfold nb at e;obtain⟨d,a,rfl⟩:=Option.map_eq_some_iff.1 e;have b:=h.opp_lt a;have c:=h.opp_symm b a;refine besd_iff.2 ⟨d%3,by omega,?_⟩;unfold nb;rw[show 3*(d/3)+d%3=d by omega,c];simp only[Option.map_some]
 congr 1
 omega
def rch(T:List T3)(s:Nat):Nat->Nat->Bool
 | 0,x=>x==s
 | d+1,x=>rch T s d x || (List.range T.length).any fun y=>rch T s d y&&besd T y x
section
variable {N : Int} {T : List T3}
theorem Surf.rch_succ(h:Surf N T){s d x:Nat}:rch T s (d+1) x=true↔rch T s d x=true\/∃y,rch T s d y=true/\besd T y x=true:=by
 rw[rch,Bool.or_eq_true,List.any_eq_true];simp only[Bool.and_eq_true,List.mem_range];constructor
 ·rintro(a|⟨y,_,b⟩)
  ·exact .inl a
  ·exact .inr ⟨y,b⟩
 ·rintro(a|⟨y,b,c⟩)
  ·exact .inl a
  ·exact .inr ⟨y,(h.besd_rng c).1,b,c⟩
theorem rch_zero{s x:Nat}:rch T s 0 x=true↔x=s:=by rw[rch,beq_iff_eq]
theorem Zi1{s x:Nat}:∀ {d e:Nat},d<=e->rch T s d x=true->rch T s e x=true
 | d,0,h,h1=>by
  have:d=0:=by omega
  rw[<- this];exact h1
 | d,e+1,h,h1=>by
  by_cases a:d=e+1
  ·rw[<- a];exact h1
  ·rw[rch,Bool.or_eq_true];exact .inl (Zi1 (e:=e) (by omega) h1)
theorem Surf.rch_lt(h:Surf N T){s:Nat}(hs:s<T.length):∀ {d x:Nat},rch T s d x=true->x<T.length
 | 0,x,h1=>by rw[rch_zero.1 h1];exact hs
 | d+1,x,h1=>by
  rcases h.rch_succ.1 h1 with a|⟨y,_,b⟩
  ·exact h.rch_lt hs a
  ·exact(h.besd_rng b).2
theorem Surf.rch_trans(h:Surf N T){a b:Nat}{d:Nat}(h1:rch T a d b=true):∀ {e x:Nat},rch T b e x=true->rch T a (d+e) x=true
 | 0,x,h2=>by rw[rch_zero.1 h2];exact h1
 | e+1,x,h2=>by
  rcases h.rch_succ.1 h2 with c|⟨y,c,f⟩
  ·exact Zi1 (by omega) (h.rch_trans h1 c)
  ·exact h.rch_succ.2 (.inr ⟨y,h.rch_trans h1 c,f⟩)
theorem Surf.rch_symm(h:Surf N T){s:Nat}:∀ {d x:Nat},rch T s d x=true->rch T x d s=true
 | 0,x,h1=>by rw[rch_zero.1 h1];exact rch_zero.2 rfl
 | d+1,x,h1=>by
  rcases h.rch_succ.1 h1 with a|⟨y,a,b⟩
  ·exact Zi1 (by omega) (h.rch_symm a)
  ·have c:rch T x 1 y=true:=h.rch_succ.2 (.inr ⟨x,rch_zero.2 rfl,h.besd_symm b⟩);have:=h.rch_trans c (h.rch_symm a)
   rwa [Nat.add_comm]at this
theorem Surf.rch_stop(h:Surf N T){s d:Nat}(hd:∀x,rch T s (d+1) x=true->rch T s d x=true):∀ {e x:Nat},rch T s e x=true->rch T s d x=true
 | 0,x,h1=>Zi1 (by omega) h1
 | e+1,x,h1=>by
  rcases h.rch_succ.1 h1 with a|⟨y,a,b⟩
  ·exact h.rch_stop hd a
  ·exact hd x (h.rch_succ.2 (.inr ⟨y,h.rch_stop hd a,b⟩))
def ball(T:List T3)(s d:Nat):Nat:=((List.range T.length).filter fun x=>rch T s d x).length
theorem Surf.ball_grow(h:Surf N T){s:Nat}(hs:s<T.length)(d:Nat):(∀x,rch T s (d+1) x=true->rch T s d x=true)\/ball T s d+1<=ball T s (d+1):=by
 by_cases b:∀x,rch T s (d+1) x=true->rch T s d x=true
 ·exact .inl b
 ·refine .inr ?_;obtain⟨x,g⟩:=Classical.not_forall.1 b;have e:rch T s (d+1) x=true:=Classical.byContradiction fun h9=>g fun h8=>absurd h8 h9
  have i:¬rch T s d x=true:=fun h9=>g fun _=>h9
  have f:=h.rch_lt hs e;unfold ball;have j:(x::(List.range T.length).filter fun x=>rch T s d x).Nodup:=by
   rw[List.nodup_cons];refine⟨fun h9=>i (List.mem_filter.1 h9).2,List.nodup_range.sublist List.filter_sublist⟩
  have k:=Zbt (m:=(List.range T.length).filter fun x=>rch T s (d+1) x) j fun a c=>by
   rcases List.mem_cons.1 c with rfl|c
   ·exact List.mem_filter.2 ⟨List.mem_range.2 f,e⟩
   ·obtain⟨l,n⟩:=List.mem_filter.1 c;exact List.mem_filter.2 ⟨l,Zi1 (by omega) n⟩
  simpa using k
theorem Surf.rch_few(h:Surf N T){s:Nat}(hs:s<T.length){e x:Nat}(hx:rch T s e x=true):rch T s (T.length-1) x=true:=by
 have f:∀d,(∀x e,rch T s e x=true->rch T s d x=true)\/d+1<=ball T s d:=by
  intro d
  induction d with
  | zero =>
   refine .inr ?_;unfold ball;have:s∈(List.range T.length).filter fun x=>rch T s 0 x:=List.mem_filter.2 ⟨List.mem_range.2 hs,rch_zero.2 rfl⟩
   have:=List.length_pos_of_mem this;omega
  | succ d b =>
   rcases b with b|b
   ·exact .inl fun x e hx=>Zi1 (by omega) (b x e hx)
   ·rcases h.ball_grow hs d with a|a
    ·exact .inl fun x e hx=>Zi1 (by omega) (h.rch_stop a hx)
    ·exact .inr (by omega)
 rcases f (T.length-1)with a|a
 ·exact a x e hx
 ·rcases h.ball_grow hs (T.length-1)with c|c
  ·exact h.rch_stop c hx
  ·exfalso;have:ball T s (T.length-1+1)<=T.length:=by
    unfold ball;exact Nat.le_trans (List.length_filter_le _ _) (by rw[List.length_range];exact Nat.le_refl _)
   omega
end
def rc(T:List T3)(S:List Nat)(i d x:Nat):Bool:=match S[i]? with
 | some s=>rch T s d x
 | none=>false
theorem rc_some{T:List T3}{S:List Nat}{i d x:Nat}:rc T S i d x=true↔∃s,S[i]? = some s/\rch T s d x=true:=by
 unfold rc;cases S[i]? with
 | none=>simp
 | some s=>simp
def Best(T:List T3)(S:List Nat)(x d i:Nat):Prop:=rc T S i d x=true/\∀j e,rc T S j e x=true->d<e\/(d=e/\i<=j)
def optI:Option Nat->Int
 | none=>-1
 | some n=>n
def Zei(T:List T3)(S:List Nat)(x:Nat):Option Nat:=Zau (fun d=>(List.range S.length).any fun i=>rc T S i d x) 0 T.length
def Zkx(T:List T3)(S:List Nat)(x:Nat):Option Nat:=(Zei T S x).bind fun d=>Zau (fun i=>rc T S i d x) 0 S.length
def Zcn(T:List T3)(S:List Nat):List Int:=(List.range T.length).map fun x=>optI (Zei T S x)
theorem Zki{T:List T3}{S:List Nat}{x:Nat}(hx:x<T.length):(Zcn T S)[x]? = some (optI (Zei T S x)):=by unfold Zcn;simp[hx]
section
variable {N : Int} {T : List T3} {S : List Nat}
theorem Zsl{i d x:Nat}(h:rc T S i d x=true):i<S.length:=by
 obtain⟨s,a,_⟩:=rc_some.1 h;exact(List.getElem?_eq_some_iff.1 a).1
theorem Surf.best_iff(h:Surf N T)(hS:∀s∈S,s<T.length){x d i:Nat}:(Zei T S x=some d/\Zkx T S x=some i)↔Best T S x d i:=by
 have c:∀d,((List.range S.length).any fun i=>rc T S i d x)=true↔∃i,rc T S i d x=true:=fun d=>by
  rw[List.any_eq_true];constructor
  ·rintro⟨i,_,a⟩;exact⟨i,a⟩
  ·rintro⟨i,a⟩;exact⟨i,List.mem_range.2 (Zsl a),a⟩
 constructor
 ·rintro⟨b,a⟩;unfold Zkx at a;rw[b]at a;obtain⟨_,_,n,o⟩:=(zamq _ _ _ _).1 b;obtain⟨_,_,m,q⟩:=(zamq _ _ _ _).1 a;refine⟨m,fun j e l=>?_⟩;rcases Nat.lt_trichotomy d e with f|f|f
  ·exact .inl f
  ·refine .inr ⟨f,?_⟩;subst f;rcases Nat.lt_or_ge j i with k|k
   ·have:=q j (by omega) k;rw[l]at this;cases this
   ·exact k
  ·have k:=o e (by omega) f;have g:=(c e).2 ⟨j,l⟩;rw[k]at g;cases g
 ·rintro⟨b,a⟩;obtain⟨s,n,o⟩:=rc_some.1 b;have r:=hS s (List.mem_of_getElem? n);have p:rc T S i (T.length-1) x=true:=rc_some.2 ⟨s,n,h.rch_few r o⟩;have t:d<T.length:=by
   have:=a i _ p;omega
  have m:Zei T S x=some d:=by
   refine(zamq _ _ _ _).2 ⟨by omega,by omega,(c d).2 ⟨i,b⟩,fun e _ he=>?_⟩;rw[Bool.eq_false_iff];intro g;obtain⟨j,l⟩:=(c e).1 g;have:=a j e l;omega
  refine⟨m,?_⟩;unfold Zkx;rw[m];refine(zamq _ _ _ _).2 ⟨by omega,by have:=Zsl b;omega,b,fun j _ l=>?_⟩;show rc T S j d x=false;rw[Bool.eq_false_iff];intro g;have:=a j d g;omega
theorem Zoz{x i d:Nat}(a:rc T S i d x=true):∃e j,Best T S x e j:=by
 have o:∀n d i,d<=n->rc T S i d x=true->∃e j,Best T S x e j:=by
  intro n
  induction n with
  | zero =>
   intro d i q a;have m:∃i,Zau (fun i=>rc T S i d x) 0 S.length=some i:=zbbq (c:=i) (by omega) (by have:=Zsl a;omega) a;obtain⟨j,l⟩:=m;obtain⟨_,_,f,k⟩:=(zamq _ _ _ _).1 l;refine⟨d,j,f,fun j' e h5=>?_⟩;rcases Nat.lt_or_ge d e with g|g
   ·exact .inl g
   ·refine .inr ⟨by omega,?_⟩;rcases Nat.lt_or_ge j' j with b|b
    ·have:=k j' (by omega) b;rw[show d=e by omega,h5]at this;cases this
    ·exact b
  | succ n ih =>
   intro d i q a;by_cases h:∃j e,e<=n/\rc T S j e x=true
   ·obtain⟨j,e,p,f⟩:=h;exact ih e j p f
   ·have m:∃i,Zau (fun i=>rc T S i d x) 0 S.length=some i:=zbbq (c:=i) (by omega) (by have:=Zsl a;omega) a;obtain⟨j,l⟩:=m;obtain⟨_,_,f,k⟩:=(zamq _ _ _ _).1 l;refine⟨d,j,f,fun j' e h5=>?_⟩;have r:¬e<=n:=fun h9=>h ⟨j',e,h9,h5⟩
    have b:¬d<=n:=fun h9=>h ⟨i,d,h9,a⟩
    rcases Nat.lt_or_ge d e with g|g
    ·exact .inl g
    ·refine .inr ⟨by omega,?_⟩;rcases Nat.lt_or_ge j' j with b|b
     ·have:=k j' (by omega) b;rw[show d=e by omega,h5]at this;cases this
     ·exact b
 exact o d d i (Nat.le_refl _) a
theorem Surf.best_none(h:Surf N T)(hS:∀s∈S,s<T.length){x:Nat}:(∀i d,rc T S i d x=false)↔Zei T S x=none:=by
 constructor
 ·intro a;unfold Zei;rw[Zcr];intro d _ _;rw[Bool.eq_false_iff];intro f;obtain⟨i,_,b⟩:=List.any_eq_true.1 f;rw[a]at b;cases b
 ·intro a i d;rw[Bool.eq_false_iff];intro b;obtain⟨e,j,c⟩:=Zoz b;rw[((h.best_iff hS).2 c).1]at a;cases a
theorem Surf.nearO_some(h:Surf N T)(hS:∀s∈S,s<T.length){x d:Nat}(hd:Zei T S x=some d):∃i,Zkx T S x=some i/\Best T S x d i:=by
 obtain⟨_,_,c,_⟩:=(zamq _ _ _ _).1 hd;obtain⟨i,_,f⟩:=List.any_eq_true.1 c;obtain⟨e,j,b⟩:=Zoz f;have a:=(h.best_iff hS).2 b;rw[hd]at a;obtain rfl:=Option.some.inj a.1;exact⟨j,a.2,b⟩
end
structure Bq (T : List T3) (S : List Nat) (st nr : List Int) (row : List Nat) : Prop where
 ls:st.length=T.length
 ln:nr.length=T.length
 nd:row.Nodup
 lt:∀x∈row,x<T.length
 inn:∀x∈row,∃d i:Nat,st[x]? = some (d:Int)/\nr[x]? = some (i:Int)/\rc T S i d x=true
 out:∀x,x<T.length->x ∉ row->st[x]? = some (-1)/\nr[x]? = some (-1)
 mono:∀(a b x y:Nat) (d e:Int),a<=b->row[a]? = some x->row[b]? = some y->st[x]? = some d->st[y]? = some e->d<=e
 few:∀(a x:Nat) (d:Int),row[a]? = some x->st[x]? = some d->d<=(a:Int)
section
variable {N : Int} {T : List T3} {S : List Nat} {st nr : List Int} {row : List Nat} {k : Nat}
theorem mem_at{row:List Nat}{x:Nat}(h:x∈row):∃a:Nat,row[a]? = some x:=by
 obtain⟨a,b,e⟩:=List.getElem_of_mem h;exact⟨a,by rw[List.getElem?_eq_getElem b,e]⟩
theorem Bq.len(h:Bq T S st nr row):row.length<=T.length:=Zfw _ _ h.nd h.lt
theorem Bq.st_lt(h:Bq T S st nr row){x:Nat}(hx:x∈row){d:Int}(hd:st[x]? = some d):0<=d/\d<T.length:=by
 obtain⟨a,c⟩:=mem_at hx;have f:=h.few a x d c hd;have g:=(List.getElem?_eq_some_iff.1 c).1;have j:=h.len;obtain⟨e,i,b,_⟩:=h.inn x hx;rw[hd]at b;have:=Option.some.inj b;omega
theorem Bq.val(h:Bq T S st nr row){x:Nat}(hx:x<T.length):∃d m:Int,st[x]? = some d/\nr[x]? = some m /\ -1<=d/\d<T.length /\ -1<=m/\m<max 1 S.length/\(d<0↔x ∉ row)/\(d<0->d = -1/\m = -1):=by
 by_cases a:x∈row
 ·obtain⟨d,i,b,c,e⟩:=h.inn x a;have:=h.st_lt a b;have:=Zsl e;exact⟨d,i,b,c,by omega,by omega,by omega,by omega,⟨fun _=>by omega,fun h9=>absurd a h9⟩,by omega⟩
 ·obtain⟨b,c⟩:=h.out x hx a;exact⟨-1,-1,b,c,by omega,by omega,by omega,by omega,⟨fun _=>a,fun _=>by omega⟩,fun _=>⟨rfl,rfl⟩⟩
theorem Bq.start(T:List T3)(S:List Nat):Bq T S (List.replicate T.length (-1)) (List.replicate T.length (-1)) [] where
 ls:=List.length_replicate
 ln:=List.length_replicate
 nd:=List.nodup_nil
 lt:=fun _ h=>(by cases h)
 inn:=fun _ h=>(by cases h)
 out:=fun x hx _=>by simp[hx]
 mono:=fun a b x y d e _ h=>by simp at h
 few:=fun a x d h=>by simp at h
theorem Zb5{l:List Int}{y:Nat}{v:Int}(h:y<l.length):(l.set y v)[y]? = some v:=by rw[List.getElem?_set_self h]
theorem Zax{l:List Int}{x y:Nat}{v:Int}(h:x≠y):(l.set y v)[x]? = l[x]?:=List.getElem?_set_ne (Ne.symm h)
structure Sk (T : List T3) (S : List Nat) (st nr : List Int) (row : List Nat) (k : Nat) : Prop where
 bq:Bq T S st nr row
 zero:∀x∈row,st[x]? = some 0
 seeds:∀(j s:Nat),j<k->S[j]? = some s->s∈row/\∃m:Nat,nr[s]? = some (m:Int)/\m<=j
theorem Sk.start(T:List T3)(S:List Nat):Sk T S (List.replicate T.length (-1)) (List.replicate T.length (-1)) [] 0:=⟨Bq.start T S,fun _ h=>(by cases h),fun j s h=>by omega⟩
variable {i : Nat}
end
def Dist(T:List T3)(S:List Nat)(x d:Nat):Prop:=(∃i,rc T S i d x=true)/\∀j e,rc T S j e x=true->d<=e
section
variable {N : Int} {T : List T3} {S : List Nat}
theorem Dist.uniq{x d e:Nat}(h:Dist T S x d)(h1:Dist T S x e):d=e:=by
 obtain⟨i,hi⟩:=h.1;obtain⟨j,a⟩:=h1.1;have:=h.2 _ _ a;have:=h1.2 _ _ hi;omega
theorem Best.dist{x d i:Nat}(h:Best T S x d i):Dist T S x d:=⟨⟨i,h.1⟩,fun j e he=>by have:=h.2 j e he;omega⟩
theorem Surf.dist_iff(h:Surf N T)(hS:∀s∈S,s<T.length){x d:Nat}:Zei T S x=some d↔Dist T S x d:=by
 constructor
 ·intro a;obtain⟨i,_,b⟩:=h.nearO_some hS a;exact b.dist
 ·intro a;obtain⟨i,hi⟩:=a.1;obtain⟨e,j,b⟩:=Zoz hi;rw[((h.best_iff hS).2 b).1,b.dist.uniq a]
theorem Zlp{x i d:Nat}(h1:rc T S i d x=true):∃e,Dist T S x e/\e<=d:=by
 obtain⟨e,j,a⟩:=Zoz h1;exact⟨e,a.dist,by have:=a.2 _ _ h1;omega⟩
theorem dist_zero{x:Nat}:Dist T S x 0↔x∈S:=by
 constructor
 ·rintro⟨⟨i,hi⟩,_⟩;obtain⟨s,a,b⟩:=rc_some.1 hi;rw[rch_zero.1 b];exact List.mem_of_getElem? a
 ·intro c;obtain⟨i,hi⟩:=mem_at c;exact⟨⟨i,rc_some.2 ⟨x,hi,rch_zero.2 rfl⟩⟩,fun _ _ _=>Nat.zero_le _⟩
structure Fr (T : List T3) (S : List Nat) (far : List Int) (r t k : Nat) : Prop where
 len:far.length=T.length
 is:∀x,x<T.length->far[x]? = some (-1)\/∃d:Nat,far[x]? = some (d:Int)/\Dist T S x d/\d<=r+1
 near:∀(x d:Nat),Dist T S x d->d<=r->far[x]? = some (d:Int)
 done:∀(y k' x:Nat),(y<t\/(y=t/\k'<k))->k'<3->Dist T S y r->nb T y ((k'+2)%3)=some x->far[x]? ≠ some (-1)
theorem Fr.val{far:List Int}{r t k x:Nat}(h:Fr T S far r t k)(hx:x<T.length):∃d:Int,far[x]? = some d /\ -1<=d/\d<=r+1:=by
 rcases h.is x hx with a|⟨d,a,_,b⟩
 ·exact⟨-1,a,by omega,by omega⟩
 ·exact⟨d,a,by omega,by omega⟩
theorem Fr.skip{far:List Int}{r t k:Nat}(h:Fr T S far r t k)(hn:∀x,nb T t ((k+2)%3)=some x->far[x]? ≠ some (-1)):Fr T S far r t (k+1) :=
 ⟨h.len,h.is,h.near,fun y k' x h1 h2 h3 h4=>by
  by_cases a:y=t/\k'=k
  ·obtain⟨rfl,rfl⟩:=a;exact hn x h4
  ·exact h.done y k' x (by omega) h2 h3 h4⟩
theorem Fr.mark(hs:Surf N T){far:List Int}{r t k x:Nat}(h:Fr T S far r t k)(hk:k<3)(ht:Dist T S t r)(hn:nb T t ((k+2)%3)=some x)(hx:far[x]? = some (-1)):Fr T S (far.set x ((r:Int)+1)) r t (k+1):=by
 have m:=h.len;have q:=(hs.nb_rng (by omega:(k+2)%3<3) hn).2;have g:besd T t x=true:=besd_iff.2 ⟨_,by omega,hn⟩;have o:Dist T S x (r+1):=by
  obtain⟨i,hi⟩:=ht.1;obtain⟨s,b,c⟩:=rc_some.1 hi;refine⟨⟨i,rc_some.2 ⟨s,b,hs.rch_succ.2 (.inr ⟨t,c,g⟩)⟩⟩,fun j e he=>?_⟩;obtain⟨d,l,f⟩:=Zlp he;rcases Nat.lt_or_ge r d with n|n
  ·omega
  ·have:=h.near x d l n;rw[hx]at this;have:=Option.some.inj this;omega
 refine⟨by rw[List.length_set];exact m,fun z hz=>?_,fun z d b c=>?_,fun y k' z b c l f=>?_⟩
 ·by_cases a:z=x
  ·subst a;exact .inr ⟨r+1,by rw[Zb5 (by omega)];rfl,o,Nat.le_refl _⟩
  ·rw[Zax a];exact h.is z hz
 ·have a:z≠x:=fun e=>by
   subst e;have:=b.uniq o;omega
  rw[Zax a];exact h.near z d b c
 ·by_cases a:z=x
  ·subst a;rw[Zb5 (by omega)];intro e;have:=Option.some.inj e;omega
  ·rw[Zax a];by_cases p:y=t/\k'=k
   ·obtain⟨rfl,rfl⟩:=p;rw[hn]at f;exact absurd (Option.some.inj f).symm a
   ·exact h.done y k' z (by omega) c l f
def pick(st:List Int):Nat->Option Nat
 | 0=>none
 | k+1=>if st.getD k 0=0 then pick st k else match pick st k with
  | none=>some k
  | some b=>if 0<=st.getD b 0/\(st.getD k 0<0\/st.getD b 0<st.getD k 0)then some k else some b
theorem Zjc{st:List Int}:∀ {k b:Nat},pick st k=some b->b<k/\st.getD b 0≠0/\∀x,x<k->st.getD x 0≠0->st.getD b 0<0\/(0<=st.getD x 0/\st.getD x 0<=st.getD b 0)
 | 0,b,h=>by cases h
 | k+1,b,h=>by
  unfold pick at h
  split at h
  ·rename_i h0;obtain⟨m,i,f⟩:=Zjc h;refine⟨by omega,i,fun x e hx0=>?_⟩;by_cases a:x=k
   ·rw[a]at hx0;exact absurd h0 hx0
   ·exact f x (by omega) hx0
  ·rename_i h0;cases g:pick st k with
   | none =>
    rw[g]at h;obtain rfl:=Option.some.inj h;refine⟨by omega,h0,fun x e hx0=>?_⟩;by_cases a:x=k
    ·rw[a];omega
    ·exfalso;have:∀j x,x<j->pick st j=none->st.getD x 0=0:=by
      intro j
      induction j with
      | zero=>intro x e;omega
      | succ j ih =>
       intro x e d;unfold pick at d
       split at d
       ·rename_i h9;by_cases l:x=j
        ·rw[l];exact h9
        ·exact ih x (by omega) d
       ·split at d
        ·cases d
        ·split at d<;>cases d
     exact hx0 (this k x (by omega) g)
   | some c =>
    rw[g]at h;obtain⟨m,i,f⟩:=Zjc g;simp only[]at h
    split at h
    ·rename_i h4;obtain rfl:=Option.some.inj h;refine⟨by omega,h0,fun x e hx0=>?_⟩;by_cases a:x=k
     ·rw[a];omega
     ·have:=f x (by omega) hx0;omega
    ·rename_i h4;obtain rfl:=Option.some.inj h;refine⟨by omega,i,fun x e hx0=>?_⟩;by_cases a:x=k
     ·subst a;omega
     ·exact f x (by omega) hx0
theorem pick_none{st:List Int}:∀ {k:Nat},pick st k=none->∀x,x<k->st.getD x 0=0
 | 0,_,x,hx=>by omega
 | k+1,h,x,hx=>by
  unfold pick at h
  split at h
  ·rename_i h9;by_cases a:x=k
   ·rw[a];exact h9
   ·exact pick_none h x (by omega)
  ·split at h
   ·cases h
   ·split at h<;>cases h
def Zao(T:List T3):Nat->List Nat
 | 0=>[0]
 | m+1=>Zao T m++(pick (Zcn T (Zao T m)) T.length).toList
theorem Zjl{x:Nat}(hx:x<T.length):(Zcn T S).getD x 0=optI (Zei T S x):=by rw[List.getD_eq_getElem?_getD,Zki hx];rfl
theorem Surf.dist_mem(h:Surf N T)(hS:∀s∈S,s<T.length){x:Nat}(hx:x<T.length):(Zcn T S).getD x 0=0↔x∈S:=by
 rw[Zjl hx,<- dist_zero (T:=T),<- h.dist_iff hS];cases Zei T S x with
 | none=>simp[optI]
 | some d=>simp[optI]
theorem Surf.seeds_ok(h:Surf N T)(hT:0<T.length):∀m,m<T.length->(Zao T m).length=m+1/\(Zao T m).Nodup/\∀s∈Zao T m,s<T.length
 | 0,_=>by simp[Zao];exact hT
 | m+1,hm=>by
  obtain⟨k,l,g⟩:=h.seeds_ok hT m (by omega);cases j:pick (Zcn T (Zao T m)) T.length with
  | none =>
   exfalso;have d:∀x,x<T.length->x∈Zao T m:=fun x hx=>(h.dist_mem g hx).1 (pick_none j x hx)
   have i:(List.range T.length).length<=(Zao T m).length:=Zbt List.nodup_range fun x hx=>d x (List.mem_range.1 hx)
   rw[List.length_range]at i;omega
  | some b =>
   obtain⟨d,i,_⟩:=Zjc j;have n:b ∉ Zao T m:=fun h9=>i ((h.dist_mem g d).2 h9)
   unfold Zao;rw[j];refine⟨by simp[k],?_,?_⟩
   ·exact List.nodup_append.2 ⟨l,by simp,fun a ha c hc e=>by
     simp at hc;subst hc;subst e;exact n ha⟩
   ·intro s o;rcases List.mem_append.1 o with f|f
    ·exact g s f
    ·simp at f;rw[f];exact d
theorem Surf.seeds_succ(h:Surf N T)(hT:0<T.length){m:Nat}(hm:m+1<T.length):∃b,pick (Zcn T (Zao T m)) T.length=some b/\Zao T (m+1)=Zao T m++[b]/\b ∉ Zao T m:=by
 have a:=h.seeds_ok hT (m+1) hm;have e:=h.seeds_ok hT m (by omega);cases d:pick (Zcn T (Zao T m)) T.length with
 | none =>
  exfalso;have:Zao T (m+1)=Zao T m:=by rw[Zao,d];simp
  rw[this]at a;omega
 | some b =>
  have c:Zao T (m+1)=Zao T m++[b]:=by rw[Zao,d];rfl
  refine⟨b,rfl,c,fun h9=>?_⟩;have:=a.2.1;rw[c]at this;exact(List.nodup_append.1 this).2.2 b h9 b (by simp) rfl
theorem Zi4(T:List T3){a b:Nat}(h:a<=b):Zao T a <+: Zao T b:=by
 induction b with
 | zero=>rw[show a=0 by omega];exact List.prefix_rfl
 | succ b ih =>
  by_cases c:a=b+1
  ·rw[c];exact List.prefix_rfl
  ·exact(ih (by omega)).trans (by rw[Zao];exact List.prefix_append _ _)
end
section
variable {N : Int} {T : List T3} {S : List Nat}
end
def Con(T:List T3)(x y:Nat):Prop:=∃d,rch T x d y=true
def sd(T:List T3)(i:Nat):Nat:=(Zao T i).getD i 0
section
variable {N : Int} {T : List T3}
theorem Con.refl(x:Nat):Con T x x:=⟨0,rch_zero.2 rfl⟩
theorem Con.symm(h:Surf N T){x y:Nat}(c:Con T x y):Con T y x:=⟨_,h.rch_symm c.choose_spec⟩
theorem Con.trans(h:Surf N T){x y z:Nat}(c:Con T x y)(c1:Con T y z):Con T x z:=by
 obtain⟨d,a⟩:=c;obtain⟨e,b⟩:=c1;exact⟨_,h.rch_trans a b⟩
theorem Con.step(h:Surf N T){x y z:Nat}(c:Con T x y)(hb:besd T y z=true):Con T x z:=by
 obtain⟨d,a⟩:=c;exact⟨d+1,h.rch_succ.2 (.inr ⟨y,a,hb⟩)⟩
theorem Surf.sd_at(h:Surf N T){i m:Nat}(him:i<=m)(hm:m<T.length):(Zao T m)[i]? = some (sd T i):=by
 obtain⟨b,_,_⟩:=h.seeds_ok (by omega) i (by omega);obtain⟨t,a⟩:=Zi4 T him;rw[<- a,List.getElem?_append_left (by omega)];unfold sd;rw[List.getD_eq_getElem?_getD,List.getElem?_eq_getElem (by omega)];rfl
theorem Surf.sd_lt(h:Surf N T){i:Nat}(hi:i<T.length):sd T i<T.length :=
 (h.seeds_ok (by omega) i hi).2.2 _ (List.mem_of_getElem? (h.sd_at (Nat.le_refl _) hi))
theorem pick_neg{st:List Int}{p:Nat}(hp:st.getD p 0<0)(hb:∀x,x<p->0<=st.getD x 0):∀k,p<k->pick st k=some p
 | 0,h=>by omega
 | k+1,h=>by
  by_cases c:p=k
  ·subst c;rw[pick,if_neg (by omega)];cases d:pick st p with
   | none=>rfl
   | some b =>
    obtain⟨a,e,_⟩:=Zjc d;have:=hb b a;simp only[];rw[if_pos ⟨this,.inl hp⟩]
  ·rw[pick,pick_neg hp hb k (by omega)]
   split
   ·rfl
   ·simp only[];rw[if_neg (by omega)]
structure Pt (T : List T3) (out : List Int) (n p : Nat) : Prop where
 len:out.length=T.length
 np:n<=p/\p<=T.length
 is:∀x,x<T.length->(∃i,i<n/\out[x]? = some (i:Int)/\Con T (sd T i) x)\/(out[x]? = some (-1)/\∀i,i<n->¬Con T (sd T i) x)
 done:∀x,x<p->out[x]? ≠ some (-1)
 apart:∀i j,i<j->j<n->¬Con T (sd T i) (sd T j)
theorem Pt.start{out:List Int}(hl:out.length=T.length)(h:∀x,x<T.length->out[x]? = some (-1)):Pt T out 0 0 :=
 ⟨hl,by omega,fun x hx=>.inr ⟨h x hx,fun i hi=>by omega⟩,fun x hx=>by omega,fun i j _ hj=>by omega⟩
theorem Pt.val{out:List Int}{n p x:Nat}(h:Pt T out n p)(hx:x<T.length):∃d:Int,out[x]? = some d /\ -1<=d/\d<n:=by
 rcases h.is x hx with⟨i,a,b,_⟩|⟨a,_⟩
 ·exact⟨i,b,by omega,by omega⟩
 ·exact⟨-1,a,by omega,by omega⟩
theorem Pt.at_(hs:Surf N T){out:List Int}{n p i x:Nat}(h:Pt T out n p)(hi:i<n)(hx:x<T.length)(c:Con T (sd T i) x):out[x]? = some (i:Int):=by
 rcases h.is x hx with⟨j,e,b,f⟩|⟨_,b⟩
 ·have d:=c.trans hs (f.symm hs);rcases Nat.lt_trichotomy i j with a|a|a
  ·exact absurd d (h.apart i j a e)
  ·rw[a];exact b
  ·exact absurd (d.symm hs) (h.apart j i a hi)
 ·exact absurd c (b i hi)
theorem Pt.skip{out:List Int}{n p:Nat}(h:Pt T out n p)(hp:p<T.length)(ho:out[p]? ≠ some (-1)):Pt T out n (p+1) :=
 ⟨h.len,by have:=h.np;omega,h.is,fun x hx=>by
  by_cases a:x=p
  ·rw[a];exact ho
  ·exact h.done x (by omega),h.apart⟩
theorem Pt.next(hs:Surf N T){out:List Int}{n p:Nat}(h:Pt T out n p)(hp:p<T.length)(ho:out[p]? = some (-1)):sd T n=p:=by
 have w:=h.np;have r:∀i,i<n->¬Con T (sd T i) p:=by
  rcases h.is p hp with⟨i,_,c,_⟩|⟨_,c⟩
  ·rw[ho]at c;have:=Option.some.inj c;omega
  ·exact c
 cases n with
 | zero =>
  have:p=0:=by
   rcases Nat.eq_zero_or_pos p with k|k
   ·exact k
   ·rcases h.is 0 (by omega)with⟨i,f,_⟩|⟨f,_⟩
    ·omega
    ·exact absurd f (h.done 0 k)
  subst this;rfl
 | succ m =>
  obtain⟨q,_,j⟩:=hs.seeds_ok (by omega) m (by omega);obtain⟨b,f,c,_⟩:=hs.seeds_succ (by omega) (m:=m) (by omega);have t:∀x i d,rc T (Zao T m) i d x=true->i<m+1/\Con T (sd T i) x:=fun x i d hr=>by
   have hi:=Zsl hr;rw[q]at hi;obtain⟨s,a,g⟩:=rc_some.1 hr;rw[hs.sd_at (by omega) (by omega)]at a;obtain rfl:=Option.some.inj a;exact⟨hi,d,g⟩
  have l:(Zcn T (Zao T m)).getD p 0<0:=by
   rw[Zjl hp,(hs.best_none j).1 fun i d=>by
    rw[Bool.eq_false_iff];intro v;obtain⟨a,g⟩:=t p i d v;exact r i a g]
   simp[optI]
  have o:∀x,x<p->0<=(Zcn T (Zao T m)).getD x 0:=fun x hx=>by
   rcases h.is x (by omega)with⟨i,a,_,d,g⟩|⟨a,_⟩
   ·obtain⟨e,u,_⟩:=Zlp (T:=T) (S:=Zao T m) (rc_some.2 ⟨_,hs.sd_at (i:=i) (m:=m) (by omega) (by omega),g⟩);rw[Zjl (by omega),(hs.dist_iff j).2 u];simp[optI]
   ·exact absurd a (h.done x hx)
  rw[pick_neg l o _ hp]at f;obtain rfl:=Option.some.inj f;unfold sd;rw[c,List.getD_eq_getElem?_getD,List.getElem?_append_right (by omega),q,Nat.sub_self];rfl
structure Bf (T : List T3) (out0 out : List Int) (row : List Nat) (n p i k : Nat) : Prop where
 len:out.length=T.length
 nd:row.Nodup
 lt:∀x∈row,x<T.length
 il:i<=row.length
 inn:∀x∈row,out[x]? = some (n:Int)/\Con T p x
 oth:∀x,x ∉ row->out[x]? = out0[x]?
 fst:p∈row
 cl:∀a x k' y,row[a]? = some x->(a<i\/(a=i/\k'<k))->k'<3->nb T x k'=some y->out[y]? ≠ some (-1)
theorem Bf.start{out:List Int}{n p:Nat}(hl:out.length=T.length)(hp:p<T.length):Bf T out (out.set p (n:Int)) [p] n p 0 0 :=
 ⟨by rw[List.length_set];exact hl,by simp,fun x hx=>by rw[List.mem_singleton.1 hx];exact hp,by simp,fun x hx=>by
  rw[List.mem_singleton.1 hx];exact⟨Zb5 (by omega),Con.refl p⟩,fun x hx=>Zax fun e=>hx (by rw[e];simp),by simp,fun a x k' y _ h=>by omega⟩
theorem Bf.few{out0 out:List Int}{row:List Nat}{n p i k:Nat}(h:Bf T out0 out row n p i k):row.length<=T.length:=by
 have:=Zbt (m:=List.range T.length) h.nd fun x hx=>List.mem_range.2 (h.lt x hx)
 rwa [List.length_range]at this
theorem Bf.val{out0 out:List Int}{row:List Nat}{n p i k m q x:Nat}(h:Bf T out0 out row n p i k)(h0:Pt T out0 m q)(hx:x<T.length):∃d:Int,out[x]? = some d /\ -1<=d/\d<=m+n:=by
 by_cases a:x∈row
 ·exact⟨n,(h.inn x a).1,by omega,by omega⟩
 ·obtain⟨d,b,c,e⟩:=h0.val hx;exact⟨d,by rw[h.oth x a];exact b,c,by omega⟩
theorem Bf.skip{out0 out:List Int}{row:List Nat}{n p i k x:Nat}(h:Bf T out0 out row n p i k)(hx:row[i]? = some x)(hn:∀y,nb T x k=some y->out[y]? ≠ some (-1)):Bf T out0 out row n p i (k+1) :=
 ⟨h.len,h.nd,h.lt,h.il,h.inn,h.oth,h.fst,fun a x' k' y h1 h2 h3 h4=>by
  by_cases b:a=i/\k'=k
  ·obtain⟨rfl,rfl⟩:=b;rw[hx]at h1;obtain rfl:=Option.some.inj h1;exact hn y h4
  ·exact h.cl a x' k' y h1 (by omega) h3 h4⟩
theorem Bf.meet(hs:Surf N T){out0 out:List Int}{row:List Nat}{n p i k x y:Nat}(h:Bf T out0 out row n p i k)(hk:k<3)(hx:row[i]? = some x)(hn:nb T x k=some y)(hy:out[y]? = some (-1)):Bf T out0 (out.set y (n:Int)) (row++[y]) n p i (k+1):=by
 have q:=(hs.nb_rng hk hn).2;have l:=h.len;have g:y ∉ row:=fun hr=>by
  have:=(h.inn y hr).1;rw[hy]at this;have:=Option.some.inj this;omega
 have m:∀z,out[z]? ≠ some (-1)->(out.set y (n:Int))[z]? ≠ some (-1):=fun z f=>by
  by_cases d:z=y
  ·subst d;rw[Zb5 (by omega)];intro e;have:=Option.some.inj e;omega
  ·rw[Zax d];exact f
 have w:=(List.getElem?_eq_some_iff.1 hx).1;refine⟨by rw[List.length_set];exact l,?_,?_,by rw[List.length_append];omega,?_,?_,List.mem_append_left _ h.fst,?_⟩
 ·exact List.nodup_append.2 ⟨h.nd,by simp,fun a ha b hb e=>by
   rw[List.mem_singleton.1 hb]at e;exact g (e ▸ ha)⟩
 ·intro z f;rcases List.mem_append.1 f with c|c
  ·exact h.lt z c
  ·rw[List.mem_singleton.1 c];exact q
 ·intro z f;rcases List.mem_append.1 f with c|c
  ·have d:z≠y:=fun e=>g (e ▸ c)
   rw[Zax d];exact h.inn z c
  ·rw[List.mem_singleton.1 c];exact⟨Zb5 (by omega),(h.inn x (List.mem_of_getElem? hx)).2.step hs (besd_iff.2 ⟨k,hk,hn⟩)⟩
 ·intro z f;have d:z≠y:=fun e=>f (by rw[e];simp)
  rw[Zax d];exact h.oth z fun c=>f (List.mem_append_left _ c)
 ·intro a v r s c A t j;have o:a<row.length:=by omega
  rw[List.getElem?_append_left o]at c;by_cases u:a=i/\r=k
  ·obtain⟨rfl,rfl⟩:=u;rw[hx]at c;obtain rfl:=Option.some.inj c;rw[hn]at j;obtain rfl:=Option.some.inj j;rw[Zb5 (by omega)];intro e;have:=Option.some.inj e;omega
  ·exact m s (h.cl a v r s c (by omega) t j)
theorem Bf.row{out0 out:List Int}{row:List Nat}{n p i:Nat}(h:Bf T out0 out row n p i 3)(hi:i<row.length):Bf T out0 out row n p (i+1) 0 :=
 ⟨h.len,h.nd,h.lt,by omega,h.inn,h.oth,h.fst,fun a x k' y h1 h2 h3 h4=>h.cl a x k' y h1 (by omega) h3 h4⟩
theorem Bf.all(hs:Surf N T){out0 out:List Int}{row:List Nat}{n p:Nat}(h0:Pt T out0 n p)(hp:p<T.length)(ho:out0[p]? = some (-1))(h:Bf T out0 out row n p row.length 0):Pt T out (n+1) (p+1):=by
 have m:=h0.next hs hp ho;have E:=h0.np;have q:∀i,i<n->¬Con T (sd T i) p:=by
  rcases h0.is p hp with⟨i,_,f,_⟩|⟨_,f⟩
  ·rw[ho]at f;have:=Option.some.inj f;omega
  ·exact f
 have s:∀d x,rch T p d x=true->x∈row:=by
  intro d
  induction d with
  | zero=>intro x g;rw[rch_zero.1 g];exact h.fst
  | succ d ih =>
   intro x g;rcases hs.rch_succ.1 g with l|⟨y,l,f⟩
   ·exact ih x l
   ·obtain⟨a,u⟩:=List.getElem?_of_mem (ih y l);obtain⟨k,z,o⟩:=besd_iff.1 f;have t:=h.cl a y k x u (.inl (List.getElem?_eq_some_iff.1 u).1) z o;have A:=(hs.nb_rng z o).2;by_cases b:x∈row
    ·exact b
    ·rw[h.oth x b]at t;rcases h0.is x A with⟨i,r,_,C⟩|⟨r,_⟩
     ·exact absurd (C.trans hs (Con.symm hs ⟨d+1,g⟩)) (q i r)
     ·exact absurd r t
 refine⟨h.len,by omega,fun x g=>?_,fun x g=>?_,fun i j hij hj=>?_⟩
 ·by_cases b:x∈row
  ·exact .inl ⟨n,by omega,(h.inn x b).1,by rw[m];exact(h.inn x b).2⟩
  ·rw[h.oth x b];rcases h0.is x g with⟨i,l,f,o⟩|⟨l,f⟩
   ·exact .inl ⟨i,by omega,f,o⟩
   ·refine .inr ⟨l,fun i hi c=>?_⟩;by_cases v:i=n
    ·rw[v,m]at c;obtain⟨d,D⟩:=c;exact b (s d x D)
    ·exact f i (by omega) c
 ·by_cases b:x∈row
  ·rw[(h.inn x b).1];intro e;have:=Option.some.inj e;omega
  ·rw[h.oth x b];by_cases B:x=p
   ·rw[B]at b;exact absurd h.fst b
   ·exact h0.done x (by omega)
 ·by_cases w:j=n
  ·rw[w,m];exact q i (by omega)
  ·exact h0.apart i j hij (by omega)
theorem Pt.full{out:List Int}{C x:Nat}(h:Pt T out C T.length)(hx:x<T.length):∃i,i<C/\out[x]? = some (i:Int)/\Con T (sd T i) x:=by
 rcases h.is x hx with a|⟨a,_⟩
 ·exact a
 ·exact absurd a (h.done x hx)
