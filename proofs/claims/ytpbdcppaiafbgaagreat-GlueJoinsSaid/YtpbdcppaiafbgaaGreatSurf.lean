/- No witness is told just of oriented surfaces: plain. -/
import Derived.Test.YtpbdcppaiafbgaaGreatMD
namespace Go.Mesh
theorem zauq(T:List T3)(i k:Nat)(hk:k<3):vt T (3*i+k)=vx (Zac T i) k:=by
 unfold vt Zac;rw[show(3*i+k)/3=i from by omega,show(3*i+k)%3=k from by omega]
theorem Zfb(T:List T3)(c:Nat):vt T c=vx (Zac T (c/3)) (c%3):=rfl
theorem Zcg{T:List T3}{i:Nat}(h:i<T.length):Zac T i∈T:=by
 unfold Zac;rw[zD,zG h];exact zM h
theorem Zc8{T:List T3}{t:T3}(h:t∈T):∃i,i<T.length/\Zac T i=t:=by
 obtain⟨i,hi,rfl⟩:=zE h;refine⟨i,hi,?_⟩;unfold Zac;rw[zD,zG hi];rfl
theorem mod3(c:Nat):c%3=0\/c%3=1\/c%3=2:=by omega
theorem vt_nx(T:List T3)(c:Nat):vt T (nx c)=vx (Zac T (c/3)) ((c+1)%3):=by
 rw[Zfb,Zbu,show nx c%3=(c+1)%3 from by unfold nx;omega]
theorem vt_pv(T:List T3)(c:Nat):vt T (pv c)=vx (Zac T (c/3)) ((c+2)%3):=by
 rw[Zfb,Zel,show pv c%3=(c+2)%3 from by unfold pv;omega]
def seen(t:T3)(k:Nat):T3:=(vx t (k%3),vx t ((k+1)%3),vx t ((k+2)%3))
theorem hasV_iff(t:T3)(k:Nat)(u:Int):HasV t u↔u=vx t (k%3)\/u=vx t ((k+1)%3)\/u=vx t ((k+2)%3):=by
 obtain⟨a,b,c⟩:=t;unfold HasV;rcases mod3 k with h|h|h
 ·rw[h,show(k+1)%3=1 from by omega,show(k+2)%3=2 from by omega];simp[vx]
 ·rw[h,show(k+1)%3=2 from by omega,show(k+2)%3=0 from by omega];simp[vx];constructor
  ·rintro(h|h|h)<;>simp[h]
  ·rintro(h|h|h)<;>simp[h]
 ·rw[h,show(k+1)%3=0 from by omega,show(k+2)%3=1 from by omega];simp[vx];constructor
  ·rintro(h|h|h)<;>simp[h]
  ·rintro(h|h|h)<;>simp[h]
theorem Zey(T:List T3)(c:Nat)(u:Int):HasV (Zac T (c/3)) u↔u=vt T c\/u=vt T (nx c)\/u=vt T (pv c):=by
 rw[hasV_iff _ c,Zfb,vt_nx,vt_pv]
theorem three_iff(t:T3)(k:Nat):Za5 t↔vx t (k%3)≠vx t ((k+1)%3)/\vx t ((k+1)%3)≠vx t ((k+2)%3)/\vx t ((k+2)%3)≠vx t (k%3):=by
 obtain⟨a,b,c⟩:=t;unfold Za5;rcases mod3 k with h|h|h
 ·rw[h,show(k+1)%3=1 from by omega,show(k+2)%3=2 from by omega];simp[vx]
 ·rw[h,show(k+1)%3=2 from by omega,show(k+2)%3=0 from by omega];simp only[vx];constructor
  ·rintro⟨d,e,f⟩;exact⟨e,f,d⟩
  ·rintro⟨d,e,f⟩;exact⟨f,d,e⟩
 ·rw[h,show(k+1)%3=0 from by omega,show(k+2)%3=1 from by omega];simp only[vx];constructor
  ·rintro⟨d,e,f⟩;exact⟨f,d,e⟩
  ·rintro⟨d,e,f⟩;exact⟨e,f,d⟩
theorem Zhn(T:List T3)(c:Nat):Za5 (Zac T (c/3))↔vt T c≠vt T (nx c)/\vt T (nx c)≠vt T (pv c)/\vt T (pv c)≠vt T c:=by
 rw[three_iff _ c,Zfb,vt_nx,vt_pv]
theorem Zbj{T:List T3}{i:Nat}{u:Int}(hi:i<T.length)(h:HasV (Zac T i) u):∃c,c<3*T.length/\c/3=i/\vt T c=u:=by
 rcases h with h|h|h
 ·exact⟨3*i+0,by omega,by omega,by rw[zauq _ _ _ (by omega)];exact h.symm⟩
 ·exact⟨3*i+1,by omega,by omega,by rw[zauq _ _ _ (by omega)];exact h.symm⟩
 ·exact⟨3*i+2,by omega,by omega,by rw[zauq _ _ _ (by omega)];exact h.symm⟩
def edgeAt(T:List T3)(c:Nat):T3:=(vt T c,vt T (nx c),0)
theorem range3:∀n,(List.range n).flatMap (fun i=>[3*i,3*i+1,3*i+2])=List.range (3*n)
 | 0=>rfl
 | n+1=>by
  rw[List.range_succ,List.flatMap_append,range3 n,show 3*(n+1)=3*n+1+1+1 from by omega,List.range_succ,List.range_succ,List.range_succ];simp
theorem Zqx(T:List T3):T=(List.range T.length).map (Zac T):=by
 apply List.ext_getElem
 ·simp
 ·intro i a b;simp[Zac,a]
theorem Zz5{α β:Type}(f:Nat->α)(g:α->List β):∀l:List Nat,(l.map f).flatMap g=l.flatMap fun i=>g (f i)
 | []=>rfl
 | x::l=>by rw[List.map_cons,List.flatMap_cons,List.flatMap_cons,Zz5 f g l]
theorem map_flat{β γ:Type}(f:Nat->List γ)(g:γ->β):∀l:List Nat,(l.flatMap f).map g=l.flatMap fun i=>(f i).map g
 | []=>rfl
 | x::l=>by rw[List.flatMap_cons,List.flatMap_cons,List.map_append,map_flat f g l]
theorem keys_range(T:List T3):T.flatMap Zoj=(List.range (3*T.length)).map (edgeAt T):=by
 rw[<- range3,map_flat]
 conv=>lhs;rw[Zqx T]
 rw[Zz5]
 congr 1
 funext i
 unfold Zoj edgeAt;simp only[List.map_cons,List.map_nil];rw[show(3*i:Nat)=3*i+0 from rfl,show nx (3*i+0)=3*i+1 from by unfold nx;omega,show nx (3*i+1)=3*i+2 from by unfold nx;omega,show nx (3*i+2)=3*i+0 from by unfold nx;omega];rw[zauq _ _ 0 (by omega),zauq _ _ 1 (by omega),zauq _ _ 2 (by omega)];rfl
theorem Zmb{β:Type}(f:Nat->β)(n:Nat):((List.range n).map f).Nodup↔∀c d,c<n->d<n->f c=f d->c=d:=by
 unfold List.Nodup;rw[List.pairwise_map,List.pairwise_iff_getElem];simp only[List.getElem_range,List.length_range];constructor
 ·intro h c d b g e;rcases Nat.lt_trichotomy c d with a|a|a
  ·exact absurd e (h c d b g a)
  ·exact a
  ·exact absurd e.symm (h d c g b a)
 ·intro h i j hi k l e;have:=h i j hi k e;omega
theorem Znd(T:List T3):(T.flatMap Zoj).Nodup↔∀c d,c<3*T.length->d<3*T.length->eg T c=eg T d->c=d:=by
 rw[keys_range,Zmb];constructor
 ·intro h c d a b e;unfold eg at e;injection e with e1 e2;refine Zvi (h _ _ (Zam a) (Zam b) ?_);unfold edgeAt;rw[Zf2,Zf2,e1,e2]
 ·intro h c d a b e;unfold edgeAt at e;injection e with e1 e2;injection e2 with e2 _;refine Zr4 (h _ _ (Zaj a) (Zaj b) ?_);unfold eg;rw[Zcf,Zcf,Zfy,Zfy,e1,e2]
theorem sort3_eq_iff(s t:T3):Zj1 s=Zj1 t↔(tri3 s).Perm (tri3 t):=by
 constructor
 ·intro h;have d:Zd0 s=Zd0 t:=by rw[Znj,Znj,h]
  have e:(Zd0 s).Perm (tri3 s):=List.mergeSort_perm _ _;have g:(Zd0 t).Perm (tri3 t):=List.mergeSort_perm _ _;rw[d]at e;exact e.symm.trans g
 ·intro h;have d:Zd0 s=Zd0 t:=by
   unfold Zd0;have f:∀a b c:Int,decide (a<=b)=true->decide (b<=c)=true->decide (a<=c)=true:=by intro a b c d e;simp at *;omega
   have to:∀a b:Int,(decide (a<=b)||decide (b<=a))=true:=by intro a b;simp;omega
   refine List.Perm.eq_of_pairwise (le:=fun a b=>decide (a<=b)=true) (fun a b _ _ d e=>by simp at *;omega) (List.pairwise_mergeSort f to _) (List.pairwise_mergeSort f to _) ?_;exact(List.mergeSort_perm _ _).trans (h.trans (List.mergeSort_perm _ _).symm)
  unfold Zj1;rw[d]
theorem perm3_iff(s t:T3)(hs:Za5 s):(tri3 s).Perm (tri3 t)↔∀k,k<3->∃m,m<3/\vx s k=vx t m:=by
 obtain⟨a,b,c⟩:=s;obtain⟨x,y,z⟩:=t;unfold Za5 at hs;simp only at hs;constructor
 ·intro h k l;have d:∀u,u∈tri3 (a,b,c)->∃m,m<3/\u=vx (x,y,z) m:=by
   intro u j;rw[h.mem_iff]at j;unfold tri3 at j;simp only[List.mem_cons,List.not_mem_nil,or_false]at j;rcases j with h|h|h
   ·exact⟨0,by omega,h⟩
   ·exact⟨1,by omega,h⟩
   ·exact⟨2,by omega,h⟩
  refine d _ ?_;have:k=0\/k=1\/k=2:=by omega
  rcases this with rfl|rfl|rfl<;>simp[tri3,vx]
 ·intro h;have d:∀k,k<3->vx (a,b,c) k=x\/vx (a,b,c) k=y\/vx (a,b,c) k=z:=by
   intro k l;obtain⟨m,d,e⟩:=h k l;rw[e];have:m=0\/m=1\/m=2:=by omega
   rcases this with rfl|rfl|rfl<;>simp[vx]
  have f:=d 0 (by omega);have g:=d 1 (by omega);have i:=d 2 (by omega);simp only[vx]at f g i;clear h d;rw[List.perm_iff_count];intro u;unfold tri3;simp only[List.count_cons,List.count_nil,beq_iff_eq];obtain⟨n,o,p⟩:=hs;rcases f with f|f|f<;>rcases g with g|g|g<;>rcases i with i|i|i<;>first|omega|(subst f g i;omega)
theorem Zhr(T:List T3)(h3:∀t∈T,Za5 t):(T.flatMap fun t=>[Zj1 t]).Nodup↔∀i j,i<j->j<T.length->¬ ∀k,k<3->∃m,m<3/\vt T (3*i+k)=vt T (3*j+m):=by
 have p:(T.flatMap fun t=>[Zj1 t])=(List.range T.length).map fun i=>Zj1 (Zac T i):=by
  conv=>lhs;rw[Zqx T]
  rw[Zz5];generalize List.range T.length=l
  induction l with
  | nil=>rfl
  | cons x l ih=>rw[List.flatMap_cons,ih];rfl
 have g:∀i j,i<T.length->((∀k,k<3->∃m,m<3/\vt T (3*i+k)=vt T (3*j+m))↔Zj1 (Zac T i)=Zj1 (Zac T j)):=by
  intro i j hi;rw[sort3_eq_iff,perm3_iff _ _ (h3 _ (Zcg hi))];constructor
  ·intro h k b;obtain⟨m,f,e⟩:=h k b;rw[zauq _ _ _ b,zauq _ _ _ f]at e;exact⟨m,f,e⟩
  ·intro h k b;obtain⟨m,f,e⟩:=h k b;exact⟨m,f,by rw[zauq _ _ _ b,zauq _ _ _ f];exact e⟩
 rw[p,Zmb];constructor
 ·intro h i j s r q;have:=h i j (by omega) r ((g i j (by omega)).1 q);omega
 ·intro h c d n o e;rcases Nat.lt_trichotomy c d with a|a|a
  ·exact absurd ((g c d n).2 e) (h c d a o)
  ·exact a
  ·exact absurd ((g d c o).2 e.symm) (h d c a n)
theorem mem_trisAt{T:List T3}{u:Int}{i:Nat}:i∈Zbz T u↔i<T.length/\HasV (Zac T i) u:=by
 unfold Zbz hasB;rw[zQ,zR,decide_eq_true_eq]
theorem Zxp{T:List T3}(h3:∀t∈T,Za5 t){c d:Nat}(hc:c<3*T.length)(hcd:c/3=d/3)(hv:vt T c=vt T d):c=d:=by
 have h:=(Zhn T c).1 (h3 _ (Zcg (by omega)));have a:d=c\/d=nx c\/d=pv c:=by unfold nx pv;omega
 rcases a with rfl|rfl|rfl
 ·rfl
 ·exact absurd hv h.1
 ·exact absurd hv.symm h.2.2
theorem adj_iff{T:List T3}(h3:∀t∈T,Za5 t){v:Int}{c d:Nat}(hc:c<3*T.length)(hd:d<3*T.length)(hvc:vt T c=v)(hvd:vt T d=v):AdjT T v (c/3) (d/3)↔share T c d:=by
 have tc:=(Zhn T c).1 (h3 _ (Zcg (by omega)));have g:=(Zhn T d).1 (h3 _ (Zcg (by omega)));unfold AdjT share;constructor
 ·rintro⟨u,f,b,a⟩;rw[Zey]at b a;rcases b with b|b|b
  ·exact absurd (b.trans hvc) f
  ·rcases a with a|a|a
   ·exact absurd (a.trans hvd) f
   ·exact .inl (b.symm.trans a)
   ·exact .inr (.inl (b.symm.trans a))
  ·rcases a with a|a|a
   ·exact absurd (a.trans hvd) f
   ·exact .inr (.inr (.inl (b.symm.trans a)))
   ·exact .inr (.inr (.inr (b.symm.trans a)))
 ·intro h;rcases h with h|h|h|h
  ·exact⟨vt T (nx c),fun e=>tc.1 (hvc.trans e.symm),(Zey _ _ _).2 (.inr (.inl rfl)),(Zey _ _ _).2 (.inr (.inl h))⟩
  ·exact⟨vt T (nx c),fun e=>tc.1 (hvc.trans e.symm),(Zey _ _ _).2 (.inr (.inl rfl)),(Zey _ _ _).2 (.inr (.inr h))⟩
  ·exact⟨vt T (pv c),fun e=>tc.2.2 (e.trans hvc.symm),(Zey _ _ _).2 (.inr (.inr rfl)),(Zey _ _ _).2 (.inr (.inl h))⟩
  ·exact⟨vt T (pv c),fun e=>tc.2.2 (e.trans hvc.symm),(Zey _ _ _).2 (.inr (.inr rfl)),(Zey _ _ _).2 (.inr (.inr h))⟩
theorem adj_symm{T:List T3}{v:Int}{i k:Nat}(h:AdjT T v i k):AdjT T v k i:=by
 obtain⟨u,a,b,c⟩:=h;exact⟨u,a,c,b⟩
theorem fan_of{T:List T3}(h3:∀t∈T,Za5 t){v:Int}(h:Zfq T v):Fan T v:=by
 obtain⟨F,G,a⟩:=h;rintro P ⟨u,x,p,w⟩ y c r n;have q:∀i k,i∈Zbz T v->k∈Zbz T v->(∀c,c<3*T.length->c/3=i->vt T c=v->P c)->AdjT T v i k->∀c,c<3*T.length->c/3=k->vt T c=v->P c:=by
  intro i k hi m g f d l A b;obtain⟨C,D⟩:=mem_trisAt.1 hi;obtain⟨e,s,B,j⟩:=Zbj C D;subst B A;exact y e d s j l b (g e s rfl j) ((adj_iff h3 s l j b).1 f)
 have o:∀c,c<3*T.length->vt T c=v->c/3∈Zbz T v:=fun c r n=>mem_trisAt.2 ⟨by omega,(Zey _ _ _).2 (.inl n.symm)⟩
 by_cases E:∀c,c<3*T.length->c/3=F->vt T c=v->P c
 ·exact a (fun i=>∀c,c<3*T.length->c/3=i->vt T c=v->P c) E (fun i k hi m g f=>q i k hi m g f) (c/3) (o c r n) c r rfl n
 ·exfalso;refine a (fun i=>¬ ∀c,c<3*T.length->c/3=i->vt T c=v->P c) E (fun i k hi m g f h9=>g (q k i m hi h9 (adj_symm f))) (u/3) (o u x p) ?_;intro d l z b;rw[Zxp h3 l z (b.trans p.symm)];exact w
theorem pinch_of{T:List T3}(h3:∀t∈T,Za5 t){v:Int}(hu:∃t∈T,HasV t v)(h:Fan T v):Zfq T v:=by
 obtain⟨l,b⟩:=Zqa hu;refine⟨l,b,fun P hP hcl k hk=>?_⟩;have g:l∈Zbz T v:=List.mem_of_mem_head? b;obtain⟨m,n⟩:=mem_trisAt.1 g;obtain⟨q,f,r,i⟩:=Zbj m n;obtain⟨o,p⟩:=mem_trisAt.1 hk;obtain⟨d,u,s,j⟩:=Zbj o p;have a:∀c,c<3*T.length->vt T c=v->c/3∈Zbz T v:=fun c hc hv=>mem_trisAt.2 ⟨by omega,(Zey _ _ _).2 (.inl hv.symm)⟩
 have:=h (fun c=>P (c/3)) ⟨q,f,i,by rw[r];exact hP⟩ (fun c e hc hvc he hve hp hs=>hcl _ _ (a c hc hvc) (a e he hve) hp ((adj_iff h3 hc he hvc hve).2 hs)) d u j;rw[s]at this;exact this
theorem Zj6(T:List T3):(∀t∈T,Za5 t)↔∀c,c<3*T.length->vt T c≠vt T (nx c):=by
 constructor
 ·intro h c b;exact((Zhn T c).1 (h _ (Zcg (by omega)))).1
 ·intro h t a;obtain⟨i,hi,rfl⟩:=Zc8 a;have e:3*i/3=i:=by omega
  rw[<- e];refine(Zhn T (3*i)).2 ⟨h _ (by omega),?_,?_⟩
  ·have:=h (nx (3*i)) (Zam (by omega))
   rwa [Zf2]at this
  ·have:=h (pv (3*i)) (Zaj (by omega))
   rwa [Zcf]at this
theorem surf_of{N:Int}{T:List T3}(h:Cert N T):Surf N T:=by
 obtain⟨n,rfl,h⟩:=h;obtain⟨m,o,p,q⟩:=h 0 (by omega);have a:∀t∈T,Za5 t:=h 1 (by omega);have j:∀u:Nat,u<n->∃t∈T,HasV t u:=h 4 (by omega);exact {
  n0:=m,nmax:=o,tmax:=p
  rng:=fun c d=>by
   have b:=q _ (Zcg (T:=T) (i:=c/3) (by omega));rw[Zfb];rcases mod3 c with e|e|e<;>rw[e]
   ·exact b.1
   ·exact b.2.1
   ·exact b.2.2
  loop:=(Zj6 T).1 a
  once:=(Znd T).1 (h 2 (by omega))
  mirror:=(Zhr T a).1 (h 3 (by omega))
  used:=fun v h0 hv=>by
   obtain⟨t,l,f⟩:=j v.toNat (by omega);rw[Int.toNat_of_nonneg h0]at f;obtain⟨i,hi,rfl⟩:=Zc8 l;obtain⟨c,d,_,g⟩:=Zbj hi f;exact⟨c,d,g⟩
  fan:=fun v h0 hv=>by
   have k:∀u:Nat,u<n->Zfq T u:=h 5 (by omega);have:=k v.toNat (by omega);rw[Int.toNat_of_nonneg h0]at this;exact fan_of a this }
theorem Surf.cert{N:Int}{T:List T3}(h:Surf N T):Cert N T:=by
 have d:=h.n0;have b:∀t∈T,Za5 t:=(Zj6 T).2 h.loop;have a:∀u:Nat,(u:Int)<N->∃t∈T,HasV t u:=by
  intro u a;obtain⟨c,m,l⟩:=h.used u (by omega) a;exact⟨_,Zcg (i:=c/3) (by omega),(Zey _ _ _).2 (.inl l.symm)⟩
 refine⟨N.toNat,(Int.toNat_of_nonneg d).symm,fun j hj=>?_⟩;have e:j=0\/j=1\/j=2\/j=3\/j=4\/j=5:=by omega
 rcases e with rfl|rfl|rfl|rfl|rfl|rfl
 ·show Za6 (N.toNat:Int) T;rw[Int.toNat_of_nonneg d];refine⟨h.n0,h.nmax,h.tmax,fun t ht=>?_⟩;obtain⟨i,hi,rfl⟩:=Zc8 ht;have f:=h.rng (3*i+0) (by omega);have g:=h.rng (3*i+1) (by omega);have k:=h.rng (3*i+2) (by omega);rw[zauq _ _ _ (by omega)]at f g k;exact⟨f,g,k⟩
 ·exact b
 ·exact(Znd T).2 h.once
 ·exact(Zhr T b).2 h.mirror
 ·exact fun u hu9=>a u (by omega)
 ·exact fun u hu9=>pinch_of b (a u (by omega)) (h.fan u (by omega) (by omega))
theorem cert_iff{N:Int}{T:List T3}:Cert N T↔Surf N T:=⟨surf_of,Surf.cert⟩
