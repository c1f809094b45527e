/- Za6: the cycles of a one-to-one map, and what a swap does. -/
import Derived.Test.YtpbdcppaiafbgaaGreatOA
namespace Go.Mesh
def Inj(n:Nat)(f:Nat->Nat):Prop:=(∀c,c<n->f c<n)/\∀a b,a<n->b<n->f a=f b->a=b
def cl(f:Nat->Nat)(n:Nat):Int->Int:=labE ((List.range n).map fun c:Nat=>((c:Int),(f c:Int)))
def cyc(f:Nat->Nat)(n:Nat):Nat:=rnk (cl f n) n
def itr(f:Nat->Nat):Nat->Nat->Nat
 | 0,x=>x
 | i+1,x=>f (itr f i x)
theorem Zfu(f:Nat->Nat){n c:Nat}(hc:c<n):cl f n (c:Int)=cl f n (f c:Int) :=
 Zhj ((c:Int),(f c:Int)) (zB.2 ⟨c,zR.2 hc,rfl⟩)
theorem Zsq{α:Type}(f:Nat->Nat)(n:Nat)(M:Int->α)(hM:∀c,c<n->M (c:Int)=M (f c:Int))(v:Int):M (cl f n v)=M v:=by
 refine Zer M (fun e he=>?_) v;obtain⟨c,a,rfl⟩:=zB.1 he;exact hM c (zR.1 a)
theorem Ztu(f:Nat->Nat)(n:Nat):Lab (cl f n):=Zes _
theorem Ztv(f:Nat->Nat)(n:Nat)(v:Int)(hv:0<=v):0<=cl f n v:=Zdx (fun e he=>by
 obtain⟨c,_,rfl⟩:=zB.1 he;exact⟨Int.natCast_nonneg _,Int.natCast_nonneg _⟩) v hv
theorem lab_ext{L M:Int->Int}(hL:Lab L)(hM:Lab M)(h:∀u v,L u=L v↔M u=M v):L=M:=by
 refine funext fun v=>?_
 have a:=(h (L v) v).1 (hL.idem v);have b:=(h (M v) v).2 (hM.idem v);have c:=hM.le (L v);have d:=hL.le (M v);omega
theorem mrg_root{L:Int->Int}(hL:Lab L){u v:Int}(hne:L u≠L v)(x:Int):mrg L u v x=x↔L x=x/\x≠max (L u) (L v):=by
 have c:=hL.idem u;have d:=hL.idem v;unfold mrg;by_cases h:L x=max (L u) (L v)
 ·rw[if_pos h];constructor
  ·intro b;exfalso;rw[<- b]at h;rcases Int.le_total (L u) (L v)with a|a
   ·rw[Int.min_eq_left a,Int.max_eq_right a]at h;omega
   ·rw[Int.min_eq_right a,Int.max_eq_left a]at h;omega
  ·rintro⟨b,a⟩;exact absurd (b.symm.trans h) a
 ·rw[if_neg h];constructor
  ·intro b;exact⟨b,fun a=>h (b.trans a)⟩
  ·exact fun b=>b.1
theorem rnk_mrg{L:Int->Int}(hL:Lab L){u v:Int}(hne:L u≠L v)(h0:0<=L u)(e:0<=L v):∀k:Nat,rnk (mrg L u v) k+(if max (L u) (L v)<(k:Int)then 1 else 0)=rnk L k
 | 0=>by
  rw[if_neg (by omega)];rfl
 | k+1=>by
  have p:=rnk_mrg hL hne h0 e k;have o:L (max (L u) (L v))=max (L u) (L v):=by
   have e:=hL.idem u;have n:=hL.idem v;rcases Int.le_total (L u) (L v)with f|f
   ·rw[Int.max_eq_right f];exact n
   ·rw[Int.max_eq_left f];exact e
  rw[Zfz,Zfz,<- p];have i:=mrg_root hL hne (k:Int);have ek:((k+1:Nat):Int)=(k:Int)+1:=by omega
  by_cases g:max (L u) (L v)=(k:Int)
  ·have b:¬mrg L u v (k:Int)=k:=fun h=>(i.1 h).2 g.symm
   have j:L (k:Int)=k:=by rw[<- g];exact o
   have l:¬max (L u) (L v)<(k:Int):=by omega
   have m:max (L u) (L v)<((k+1:Nat):Int):=by omega
   rw[if_neg b,if_pos m,if_neg l,if_pos j]
  ·have c:max (L u) (L v)<((k+1:Nat):Int)↔max (L u) (L v)<(k:Int):=by omega
   by_cases d:L (k:Int)=k
   ·have b:mrg L u v (k:Int)=k:=i.2 ⟨d,fun h=>g h.symm⟩;rw[if_pos b,if_pos d];by_cases a:max (L u) (L v)<(k:Int)
    ·rw[if_pos a,if_pos (c.2 a)]
    ·rw[if_neg a,if_neg (fun h=>a (c.1 h))]
   ·have b:¬mrg L u v (k:Int)=k:=fun h=>d (i.1 h).1
    rw[if_neg b,if_neg d];by_cases a:max (L u) (L v)<(k:Int)
    ·rw[if_pos a,if_pos (c.2 a)]
    ·rw[if_neg a,if_neg (fun h=>a (c.1 h))]
theorem Zl3{n:Nat}{f:Nat->Nat}(h:Inj n f){b:Nat}(hb:b<n):∀i,itr f i b<n
 | 0=>hb
 | i+1=>h.1 _ (Zl3 h hb i)
theorem itr_back{n:Nat}{f:Nat->Nat}(h:Inj n f){b:Nat}(hb:b<n):∀i j,itr f (i+j) b=itr f i b->itr f j b=b
 | 0,j,e=>by rw[Nat.zero_add]at e;exact e
 | i+1,j,e=>by
  rw[show i+1+j=(i+j)+1 by omega]at e;exact itr_back h hb i j (h.2 _ _ (Zl3 h hb _) (Zl3 h hb _) e)
theorem nodup_few{l:List Nat}{n:Nat}(hn:l.Nodup)(h:∀x∈l,x<n):l.length<=n:=by
 induction n generalizing l with
 | zero =>
  cases l with
  | nil=>exact zl
  | cons x l=>exact absurd (h x (List.mem_cons_self ..)) (Nat.not_lt_zero _)
 | succ n ih =>
  have c:(l.erase n).length<=n:=ih (hn.erase n) fun x hx=>by
   have f:=h x (List.mem_of_mem_erase hx);have g:x≠n:=fun e=>by
    subst e;exact(List.Nodup.not_mem_erase hn) hx
   omega
  have d:=List.length_erase_of_mem (a:=n) (l:=l);by_cases b:n∈l
  ·have:=d b;omega
  ·rw[List.erase_of_not_mem b]at c;omega
theorem itr_round{n:Nat}{f:Nat->Nat}(h:Inj n f){b:Nat}(hb:b<n):∃k,itr f (k+1) b=b:=by
 refine Classical.byContradiction fun hno=>?_
 have a:∀i j,i<j->itr f i b≠itr f j b:=fun i j hij e=>by
  obtain⟨d,rfl⟩:∃d,j=i+(d+1):=⟨j-i-1,by omega⟩;exact hno ⟨d,itr_back h hb i (d+1) e.symm⟩
 have c:((List.range (n+1)).map fun i=>itr f i b).Nodup:=by
  unfold List.Nodup;rw[List.pairwise_map];exact List.pairwise_lt_range.imp fun {i j} hij=>a i j hij
 have:=nodup_few c (n:=n) fun x hx=>by
  obtain⟨i,_,rfl⟩:=zB.1 hx;exact Zl3 h hb i
 simp at this;omega
def swp(f:Nat->Nat)(a b:Nat):Nat->Nat:=fun c=>if c=a then f b else if c=b then f a else f c
theorem swp_inj{n:Nat}{f:Nat->Nat}(h:Inj n f){a b:Nat}(ha:a<n)(hb:b<n):Inj n (swp f a b):=by
 refine⟨fun c hc=>?_,fun x y hx hy=>?_⟩
 ·unfold swp
  (repeat' split)<;>first|exact h.1 _ hb|exact h.1 _ ha|exact h.1 _ hc
 ·unfold swp;have d:=h.2 b a hb ha;have g:=h.2 x y hx hy;have i:=h.2 b y hb hy;have j:=h.2 a y ha hy;have k:=h.2 x a hx ha;have l:=h.2 x b hx hb
  (repeat' split)<;>intro e<;>first|(subst_vars;rfl)|(have:=g e;omega)|(have:=d e;omega)|(have:=d e.symm;omega)|(have:=i e;omega)|(have:=j e;omega)|(have:=k e;omega)|(have:=l e;omega)
theorem swp_swp(f:Nat->Nat)(a b:Nat):swp (swp f a b) a b=f:=by
 refine funext fun c=>?_
 unfold swp;by_cases e:c=a
 ·subst e;rw[if_pos rfl];by_cases d:b=c
  ·rw[if_pos d,d]
  ·rw[if_neg d,if_pos rfl]
 ·rw[if_neg e];by_cases d:c=b
  ·subst d;rw[if_pos rfl,if_pos rfl]
  ·rw[if_neg d,if_neg e,if_neg d]
theorem swp_one{n:Nat}{f:Nat->Nat}(h:Inj n f){a b:Nat}(ha:a<n)(hb:b<n)(hne:cl f n a≠cl f n b):cl (swp f a b) n=mrg (cl f n) a b/\cyc (swp f a b) n+1=cyc f n:=by
 have B:a≠b:=fun e=>hne (by rw[e])
 have r:swp f a b a=f b:=by unfold swp;rw[if_pos rfl]
 have D:swp f a b b=f a:=by unfold swp;rw[if_neg (Ne.symm B),if_pos rfl]
 have z:∀c,c≠a->c≠b->swp f a b c=f c:=fun c m g=>by unfold swp;rw[if_neg m,if_neg g]
 have C:∀i,cl f n (itr f i b:Nat)=cl f n b:=fun i=>by
  induction i with
  | zero=>rfl
  | succ i ih =>
   rw[<- ih];exact(Zfu f (Zl3 h hb i)).symm
 have t:∀i,itr f i b≠a:=fun i e=>hne (by rw[<- e];exact C i)
 have y:∀i,cl (swp f a b) n (itr f (i+1) b:Nat)=cl (swp f a b) n a:=fun i=>by
  induction i with
  | zero =>
   have:=Zfu (swp f a b) ha;rw[r]at this;exact this.symm
  | succ i ih =>
   by_cases hi:itr f (i+1) b=b
   ·have:=Zfu (swp f a b) ha;rw[r]at this;show cl (swp f a b) n (f (itr f (i+1) b):Nat)=_;rw[hi];exact this.symm
   ·have:=Zfu (swp f a b) (Zl3 h hb (i+1));rw[z _ (t _) hi]at this;exact this.symm.trans ih
 obtain⟨k,F⟩:=itr_round h hb;have d:cl (swp f a b) n a=cl (swp f a b) n b:=by
  have:=y k;rw[F]at this;exact this.symm
 have q:∀c,c<n->cl (swp f a b) n c=cl (swp f a b) n (f c:Nat):=fun c p=>by
  have m:=Zfu (swp f a b) p;by_cases j:c=a
  ·subst j;have g:=Zfu (swp f c b) hb;rw[D]at g;exact d.trans g
  ·by_cases l:c=b
   ·subst l;have g:=Zfu (swp f a c) ha;rw[r]at g;exact d.symm.trans g
   ·rw[z c j l]at m;exact m
 have A:cl (swp f a b) n=mrg (cl f n) a b:=by
  refine lab_ext (Ztu _ _) ((Ztu f n).mrg _ _) fun u v=>?_
  constructor
  ·intro e;have o:∀w,mrg (cl f n) a b (cl (swp f a b) n w)=mrg (cl f n) a b w:=Zsq (swp f a b) n (mrg (cl f n) a b) fun c p=>by
    by_cases j:c=a
    ·subst j;rw[r];exact(mrg_one _ _).trans (mrg_eq _ _ (Zfu f hb))
    ·by_cases l:c=b
     ·subst l;rw[D];exact(mrg_one _ _).symm.trans (mrg_eq _ _ (Zfu f ha))
     ·rw[z c j l];exact mrg_eq _ _ (Zfu f p)
   rw[<- o u,<- o v,e]
  ·intro e;have o:∀w,cl (swp f a b) n (labE (((List.range n).map fun c:Nat=>((c:Int),(f c:Int)))++[((a:Int),(b:Int))]) w)=cl (swp f a b) n w:=Zer _ fun x hx=>by
    rcases zP.1 hx with s|s
    ·obtain⟨c,p,rfl⟩:=zB.1 s;exact q c (zR.1 p)
    ·rw[zU.1 s];exact d
   rw[Zh9]at o;have e:mrg (labE ((List.range n).map fun c:Nat=>((c:Int),(f c:Int)))) a b u=mrg (labE ((List.range n).map fun c:Nat=>((c:Int),(f c:Int)))) a b v:=e;rw[<- o u,<- o v];exact congrArg _ e
 refine⟨A,?_⟩;have E:=Ztv f n a (by omega);have m:=Ztv f n b (by omega);have g:=(Ztu f n).le a;have G:=(Ztu f n).le b;have:=rnk_mrg (Ztu f n) hne E m n;rw[if_pos (by omega)]at this;unfold cyc;rw[A];exact this
theorem swp_two{n:Nat}{f:Nat->Nat}(h:Inj n f){a b:Nat}(ha:a<n)(hb:b<n)(hab:a≠b)(he:cl f n a=cl f n b):cl (swp f a b) n a≠cl (swp f a b) n b:=by
 have E:swp f a b a=f b:=by unfold swp;rw[if_pos rfl]
 have F:swp f a b b=f a:=by unfold swp;rw[if_neg (Ne.symm hab),if_pos rfl]
 have G:∀c,c≠a->c≠b->swp f a b c=f c:=fun c d l=>by unfold swp;rw[if_neg d,if_neg l]
 have C:∃i,itr f i b=a:=by
  have s:∀w:Int,(∃i,(itr f i b:Int)=cl f n w)=∃i,(itr f i b:Int)=w:=fun w=>Zsq f n (fun w:Int=>∃i,(itr f i b:Int)=w) (fun c hc=>by
   refine propext ⟨fun⟨i,hi⟩=>⟨i+1,?_⟩,fun⟨i,hi⟩=>?_⟩
   ·show((f (itr f i b):Nat):Int)=_;rw[Int.ofNat.inj hi]
   ·cases i with
    | zero =>
     obtain⟨k,D⟩:=itr_round h hb;refine⟨k,?_⟩;have d:f (itr f k b)=f c:=D.trans (Int.ofNat.inj hi);rw[h.2 _ _ (Zl3 h hb k) hc d]
    | succ i=>exact⟨i,by rw[h.2 _ _ (Zl3 h hb i) hc (Int.ofNat.inj hi)]⟩) w
  have d:∃i,(itr f i b:Int)=cl f n b:=(s b)▸⟨0,rfl⟩;rw[<- he]at d;obtain⟨i,hi⟩:=(s a)▸d;exact⟨i,Int.ofNat.inj hi⟩
 obtain⟨m,p,o⟩:∃m,itr f m b=a/\∀i,i<m->itr f i b≠a:=by
  obtain⟨i,hi⟩:=C
  induction i using Nat.strongRecOn with
  | _ i ih =>
   by_cases A:∃j,j<i/\itr f j b=a
   ·obtain⟨j,z,y⟩:=A;exact ih j z y
   ·exact⟨i,hi,fun j z y=>A ⟨j,z,y⟩⟩
 have H:m≠0:=fun e=>by subst e;exact hab p.symm
 have hcut:∀i,1<=i->i<=m+1->itr f (m+1) b≠itr f i b\/i=m+1:=fun i d l=>by
  by_cases hi:i=m+1
  ·exact .inr hi
  ·left;intro e;obtain⟨j,rfl⟩:∃j,i=j+1:=⟨i-1,by omega⟩;have g:itr f m b=itr f j b:=h.2 _ _ (Zl3 h hb m) (Zl3 h hb j) e;exact o j (by omega) (g.symm.trans p)
 have u:∀i,1<=i->i<=m->itr f i b≠b:=fun i d l e=>by
  have B:∀t,itr f (t+i) b=itr f t b:=fun t=>by
   induction t with
   | zero=>rw[Nat.zero_add];exact e
   | succ t ih =>
    rw[show t+1+i=(t+i)+1 by omega];show f _=f _;rw[ih]
  have:=B (m-i);rw[show m-i+i=m by omega,p]at this;exact o (m-i) (by omega) this.symm
 intro e;have s:∀w:Int,(∃i,1<=i/\i<=m/\(itr f i b:Int)=cl (swp f a b) n w)=∃i,1<=i/\i<=m/\(itr f i b:Int)=w:=fun w=>Zsq (swp f a b) n (fun w:Int=>∃i,1<=i/\i<=m/\(itr f i b:Int)=w) (fun c hc=>by
  by_cases v:c=a
  ·subst v;rw[E];exact propext ⟨fun _=>⟨1,zl,by omega,rfl⟩,fun _=>⟨m,by omega,zl,by rw[p]⟩⟩
  ·by_cases x:c=b
   ·subst x;rw[F];refine propext ⟨fun⟨i,d,l,g⟩=>absurd (Int.ofNat.inj g) (u i d l),fun⟨i,d,l,g⟩=>?_⟩;have q:itr f (m+1) c=f a:=by show f (itr f m c)=_;rw[p]
    rcases hcut i d (by omega)with r|r
    ·exact absurd (q.trans (Int.ofNat.inj g).symm) r
    ·omega
   ·rw[G c v x];refine propext ⟨fun⟨i,d,l,g⟩=>?_,fun⟨i,d,l,g⟩=>?_⟩
    ·have g:=Int.ofNat.inj g;have:i≠m:=fun e=>by subst e;exact v (g.symm.trans p)
     exact⟨i+1,by omega,by omega,by show((f (itr f i b):Nat):Int)=_;rw[g]⟩
    ·obtain⟨j,rfl⟩:∃j,i=j+1:=⟨i-1,by omega⟩;have q:=h.2 _ _ (Zl3 h hb j) hc (Int.ofNat.inj g);refine⟨j,?_,by omega,by rw[q]⟩;rcases Nat.eq_zero_or_pos j with r|r
     ·subst r;exact absurd q.symm x
     ·exact r) w
 have d:∃i,1<=i/\i<=m/\(itr f i b:Int)=cl (swp f a b) n a:=(s a)▸⟨m,by omega,zl,by rw[p]⟩;rw[e]at d;obtain⟨i,l,g,q⟩:=(s b)▸d;exact u i l g (Int.ofNat.inj q)
theorem cyc_swp{n:Nat}{f:Nat->Nat}(h:Inj n f){a b:Nat}(ha:a<n)(hb:b<n)(hab:a≠b):(cyc (swp f a b) n+1)%2=cyc f n%2:=by
 by_cases c:cl f n a=cl f n b
 ·have d:=(swp_one (swp_inj h ha hb) ha hb (swp_two h ha hb hab c)).2;rw[swp_swp]at d;omega
 ·have:=(swp_one h ha hb c).2;omega
theorem cyc_count{β:Type}[DecidableEq β]{f:Nat->Nat}{n:Nat}(M:Nat->β)(hM:∀c,c<n->M c=M (f c))(hone:∀c d,c<n->d<n->M c=M d->cl f n c=cl f n d){l:List β}(hl:l.Nodup)(hto:∀x∈l,∃c,c<n/\M c=x)(hin:∀c,c<n->M c∈l):cyc f n=l.length:=by
 have g:∀c,c<n->∃r:Nat,r<n/\cl f n c=r/\cl f n r=r/\M r=M c:=fun c i=>by
  have p:=Ztv f n c (by omega);have y:=(Ztu f n).le c;have a:=Zsq f n (fun w:Int=>M w.toNat) (fun d hd=>by rw[zC,zC];exact hM d hd) c;rw[zC]at a;refine⟨(cl f n c).toNat,by omega,by omega,?_,a⟩;rw[Int.toNat_of_nonneg p];exact(Ztu f n).idem c
 have e:cyc f n=(((List.range n).filter fun u:Nat=>decide (cl f n (u:Int)=u)).map M).length:=by
  unfold cyc rnk;rw[zL,List.countP_eq_length_filter]
 rw[e];refine((List.perm_ext_iff_of_nodup ?_ hl).2 fun x=>?_).length_eq
 ·have b:((List.range n).filter fun u:Nat=>decide (cl f n (u:Int)=u)).Nodup:=List.nodup_range.filter _;unfold List.Nodup at b ⊢;rw[List.pairwise_map];refine b.imp_of_mem fun {u v} h hv huv h9=>huv ?_
  obtain⟨j,k⟩:=zQ.1 h;obtain⟨m,o⟩:=zQ.1 hv;have:=hone u v (zR.1 j) (zR.1 m) h9;rw[of_decide_eq_true k,of_decide_eq_true o]at this;exact Int.ofNat.inj this
 ·rw[zB];constructor
  ·rintro⟨u,h,rfl⟩;exact hin u (zR.1 (zQ.1 h).1)
  ·intro t;obtain⟨c,i,rfl⟩:=hto x t;obtain⟨r,s,_,a,q⟩:=g c i;exact⟨r,zQ.2 ⟨zR.2 s,zY a⟩,q⟩
section
variable {N : Int} {T : List T3}
def al(T:List T3)(k c:Nat):Nat:=match opp T c with
 | some d=>if min c d<k then d else c
 | none=>c
theorem Ztk{k c:Nat}(h:opp T c=none):al T k c=c:=by unfold al;rw[h]
theorem Zkd{k c d:Nat}(h:opp T c=some d):al T k c=if min c d<k then d else c:=by unfold al;rw[h]
def tau(T:List T3)(k x:Nat):Nat:=pv (al T k (pv x))
def iE(T:List T3)(k:Nat):Nat:=(List.range k).countP fun c=>match opp T c with
 | some d=>decide (c<d)
 | none=>false
theorem iE_succ(T:List T3)(k:Nat):iE T (k+1)=iE T k+if(match opp T k with
 | some d=>decide (k<d)
 | none=>false)=true then 1 else 0:=by
 unfold iE;rw[List.range_succ,List.countP_append,List.countP_cons,List.countP_nil,Nat.zero_add]
theorem tau_zero(T:List T3):tau T 0=nx:=by
 refine funext fun x=>?_
 have h:al T 0 (pv x)=pv x:=by
  unfold al;cases opp T (pv x)with
  | none=>rfl
  | some d=>exact if_neg (Nat.not_lt_zero _)
 unfold tau;rw[h,Zfy]
theorem Surf.tau_skip(hs:Surf N T){k:Nat}(h:∀d,opp T k=some d->¬k<d):tau T (k+1)=tau T k:=by
 refine funext fun x=>?_
 unfold tau;refine congrArg pv ?_;cases a:opp T (pv x)with
 | none=>rw[Ztk a,Ztk a]
 | some d =>
  rw[Zkd a,Zkd a];have g:=hs.opp_symm (hs.opp_lt a) a;have i:d≠pv x:=fun e=>by
   have b:=(hs.opp_iff.1 a).2.1;rw[e]at b;exact hs.loop3 (hs.opp_lt a) b
  have j:min (pv x) d≠k:=fun e=>by
   rcases zK (pv x) d with c|c
   ·rw[Nat.min_eq_left (by omega)]at e;exact h d (by rw[<- e];exact a) (by omega)
   ·rw[Nat.min_eq_right c]at e;exact h (pv x) (by rw[<- e];exact g) (by omega)
  by_cases f:min (pv x) d<k
  ·rw[if_pos f,if_pos (by omega)]
  ·rw[if_neg f,if_neg (by omega)]
theorem Surf.tau_swp(hs:Surf N T){k d:Nat}(h:opp T k=some d)(hlt:k<d):tau T (k+1)=swp (tau T k) (nx k) (nx d):=by
 have g:=hs.opp_symm (hs.opp_lt h) h;refine funext fun x=>?_
 unfold swp tau;rw[Ze2,Ze2];by_cases b:x=nx k
 ·subst b;rw[if_pos rfl,Ze2,Zkd h,Zkd g,if_pos (by omega),if_neg (by omega)]
 ·rw[if_neg b];by_cases c:x=nx d
  ·subst c;rw[if_pos rfl,Ze2,Zkd h,Zkd g,if_pos (by omega),if_neg (by omega)]
  ·rw[if_neg c];refine congrArg pv ?_;have l:pv x≠k:=fun e=>b (by rw[<- e,Zcf])
   have j:pv x≠d:=fun e=>c (by rw[<- e,Zcf])
   cases a:opp T (pv x)with
   | none=>rw[Ztk a,Ztk a]
   | some e =>
    rw[Zkd a,Zkd a];have i:=hs.opp_symm (hs.opp_lt a) a;have m:e≠k:=fun q=>by
     rw[q,h]at i;exact j (zO i).symm
    by_cases f:min (pv x) e<k
    ·rw[if_pos f,if_pos (by omega)]
    ·rw[if_neg f,if_neg (by omega)]
theorem nx_Inj(T:List T3):Inj (3*T.length) nx:=⟨fun _ hc=>Zam hc,fun _ _ _ _ h=>Zvi h⟩
theorem Surf.tau_all(hs:Surf N T):∀k,k<=3*T.length->Inj (3*T.length) (tau T k)/\(cyc (tau T k) (3*T.length)+iE T k)%2=cyc nx (3*T.length)%2
 | 0,_=>by rw[tau_zero];exact⟨nx_Inj T,rfl⟩
 | k+1,hk=>by
  obtain⟨f,h⟩:=hs.tau_all k (by omega);rw[iE_succ];cases g:opp T k with
  | none =>
   rw[hs.tau_skip fun d h9=>by rw[g]at h9;cases h9];exact⟨f,h⟩
  | some d =>
   by_cases c:k<d
   ·rw[hs.tau_swp g c];have a:=Zam (show k<3*T.length by omega);have b:=Zam (hs.opp_iff.1 g).1;have i:nx k≠nx d:=fun e=>by have:=Zvi e;omega
    refine⟨swp_inj f a b,?_⟩;have j:=cyc_swp f a b i;simp only[c,decide_true,if_true];omega
   ·rw[hs.tau_skip fun e h9=>by rw[g]at h9;rw[<- zO h9];exact c];simp only[c,decide_false];exact⟨f,h⟩
theorem cyc_nx(n:Nat):cyc nx (3*n)=n:=by
 have h:=cyc_count (f:=nx) (n:=3*n) (fun c=>c/3) (fun c _=>(Zbu c).symm) (fun c d hc hd h=>?_) (l:=List.range n) List.nodup_range (fun x hx=>⟨3*x,by have:=zR.1 hx;omega,by show 3*x/3=x;omega⟩) (fun c hc=>zR.2 (show c/3<n by omega))
 ·rw[h,List.length_range]
 ·have h:c/3=d/3:=h;have a:=Zfu nx hc;have b:=Zfu nx (Zam hc);rw[Zf2]at b;have e:d=c\/d=nx c\/d=pv c:=by unfold nx pv;omega
  rcases e with rfl|rfl|rfl
  ·rfl
  ·exact a
  ·exact a.trans b
end
section
variable {N : Int} {T : List T3}
def lpOf(T:List T3)(N:Int)(v:Nat):List Nat:=((lps T N N.toNat).find? fun L=>decide (v∈L)).getD [v]
theorem Surf.lpOf_in(hs:Surf N T){L:List Nat}(hL:L∈lps T N N.toNat){v:Nat}(hv:v∈L):lpOf T N v=L:=by
 unfold lpOf;cases h:(lps T N N.toNat).find? fun L=>decide (v∈L)with
 | none=>exact absurd (zY hv) (List.find?_eq_none.1 h L hL)
 | some M =>
  have b:=List.mem_of_find?_eq_some h;have a:decide (v∈M)=true:=List.find?_some (p:=fun L=>decide (v∈L)) h;have a:=of_decide_eq_true a;obtain⟨i,hi,rfl⟩:=zE hL;obtain⟨j,c,rfl⟩:=zE b;by_cases e:i=j
  ·subst e;rfl
  ·exact absurd a (hs.lps_apart hi c e v hv)
theorem Zpc{v:Nat}(h:v ∉ (lps T N N.toNat).flatten):lpOf T N v=[v]:=by
 unfold lpOf;rw[List.find?_eq_none.2 fun L hL h9=>h (List.mem_flatten.2 ⟨L,hL,of_decide_eq_true h9⟩)];rfl
theorem Surf.lpOf_aft(hs:Surf N T){a b:Int}(h:aftV T a=some b):lpOf T N a.toNat=lpOf T N b.toNat:=by
 have k:=hs.aftV_rng h;have d:((a.toNat:Nat):Int)=a:=Int.toNat_of_nonneg k.1.1;obtain⟨L,c,f⟩:=List.mem_flatten.1 ((hs.lps_all a.toNat).2 ⟨b,by rw[d];exact h⟩);obtain⟨i,hi,j⟩:=zE f;have e:=(hs.lps_round c).2.2 i hi;rw[j,d,h]at e;have g:b.toNat∈L:=by
  rw[zO e,zC];exact zM _
 rw[hs.lpOf_in c f,hs.lpOf_in c g]
theorem Surf.flat_inner(hs:Surf N T){v:Nat}(hv:(v:Int)<N):v∈(lps T N N.toNat).flatten↔Zae T N (v:Int)=false:=by
 rw[hs.lps_all,hs.aftV_inner ⟨by omega,hv⟩];cases aftV T (v:Int)with
 | none=>simp
 | some b=>simp
theorem Surf.tau_some(hs:Surf N T){x d:Nat}(h:opp T (pv x)=some d):tau T (3*T.length) x=pv d:=by
 unfold tau;have:=hs.opp_lt h;rw[Zkd h,if_pos (by omega)]
theorem tau_none{k x:Nat}(h:opp T (pv x)=none):tau T k x=nx x:=by
 unfold tau;rw[Ztk h,Zfy]
theorem Surf.tau_bef(hs:Surf N T){x y:Nat}(hx:x<3*T.length)(h:bef T x=some y):cl (tau T (3*T.length)) (3*T.length) x=cl (tau T (3*T.length)) (3*T.length) y:=by
 unfold bef at h;obtain⟨d,b,rfl⟩:=Option.map_eq_some_iff.1 h;have a:=Zfu (tau T (3*T.length)) hx;rw[hs.tau_some b]at a;exact a
theorem Surf.tau_at(hs:Surf N T){c d:Nat}(hc:c<3*T.length)(hd:d<3*T.length)(h:vt T c=vt T d):cl (tau T (3*T.length)) (3*T.length) c=cl (tau T (3*T.length)) (3*T.length) d:=by
 have a:=hs.rng c hc;refine hs.closed_all a.1 a.2 (fun x=>cl (tau T (3*T.length)) (3*T.length) c=cl (tau T (3*T.length)) (3*T.length) x) hc rfl rfl (fun x y hx hxv h ha=>?_) (fun x y hx hxv h hb=>?_) d hd h.symm
 ·exact h.trans (hs.tau_bef (hs.aft_iff.1 ha).1 (hs.aft_bef hx ha)).symm
 ·exact h.trans (hs.tau_bef hx hb)
theorem Surf.tau_border(hs:Surf N T){a b:Int}(h:aftV T a=some b){c d:Nat}(hc:c<3*T.length)(hd:d<3*T.length)(hca:vt T c=a)(hdb:vt T d=b):cl (tau T (3*T.length)) (3*T.length) c=cl (tau T (3*T.length)) (3*T.length) d:=by
 obtain⟨e,f,j,g,i⟩:=hs.aftV_iff.1 h;have k:=Zfu (tau T (3*T.length)) (Zam f);rw[tau_none (x:=nx e) (by rw[Ze2];exact j),Zf2]at k;exact(hs.tau_at hc (Zaj f) (hca.trans g.symm)).trans (k.symm.trans (hs.tau_at (Zam f) hd (i.trans hdb.symm)))
theorem Surf.tau_loop(hs:Surf N T){L:List Nat}(hL:Round T L){c:Nat}(hc:c<3*T.length)(h:vt T c=((L[0]'hL.1:Nat):Int)):∀i (hi:i<L.length) (d:Nat),d<3*T.length->vt T d=(L[i]:Int)->cl (tau T (3*T.length)) (3*T.length) c=cl (tau T (3*T.length)) (3*T.length) d
 | 0,_,_,hd,h1=>hs.tau_at hc hd (h.trans h1.symm)
 | i+1,hi,d,hd,h1=>by
  have a:=hL.2.2 i (by omega);have e:(i+1)%L.length=i+1:=Nat.mod_eq_of_lt hi;simp only[e]at a;obtain⟨g,f,_,b,_⟩:=hs.aftV_iff.1 a;exact(hs.tau_loop hL hc h i (by omega) (pv g) (Zaj f) b).trans (hs.tau_border a (Zaj f) hd b h1)
theorem Surf.cyc_tau(hs:Surf N T):cyc (tau T (3*T.length)) (3*T.length)=((List.range N.toNat).filter fun v:Nat=>Zae T N (v:Int)).length+(lps T N N.toNat).length:=by
 have z:∀c,c<3*T.length->(vt T c).toNat<N.toNat/\(((vt T c).toNat:Nat):Int)=vt T c:=fun c k=>by
  have:=hs.rng c k;omega
 have o:∀L∈lps T N N.toNat,3<=L.length:=fun L g=>(hs.lps_each N.toNat L g).1
 have q:∀v:Nat,(v:Int)<N->∃c,c<3*T.length/\vt T c=(v:Int):=fun v z=>by
  obtain⟨b,A⟩:=hs.corner_some (v:=(v:Int)) (by omega) z;obtain⟨_,Y,I,_⟩:=(zamq _ _ _ _).1 A;exact⟨b,by omega,by simpa using I⟩
 have J:(((List.range N.toNat).filter fun v:Nat=>Zae T N (v:Int)).map (fun v:Nat=>[v])++lps T N N.toNat).Nodup:=by
  refine List.nodup_append.2 ⟨zbiq (List.nodup_range.filter _) fun a _ b _ h=>by simpa using h,?_,?_⟩
  ·have U:=(List.pairwise_flatten.1 (hs.lps_nodup N.toNat)).2;refine U.imp_of_mem fun {L M} g u h e=>?_
   subst e;have I:=o L g;exact h _ (zM (show 0<L.length by omega)) _ (zM (show 0<L.length by omega)) rfl
  ·intro x V y W e;obtain⟨v,_,rfl⟩:=zB.1 V;subst e;have:=o _ W;simp at this
 have h:=cyc_count (f:=tau T (3*T.length)) (n:=3*T.length) (fun c=>lpOf T N (vt T c).toNat) (fun c k=>?_) (fun c d k hd h=>?_) J (fun L g=>?_) (fun c k=>?_)
 ·rw[h,zA,zL]
 ·show lpOf T N (vt T c).toNat=lpOf T N (vt T (tau T (3*T.length) c)).toNat;cases B:opp T (pv c)with
  | some d =>
   rw[hs.tau_some B];have l:=(hs.opp_iff.1 B).2.2;rw[Zcf]at l;rw[l]
  | none =>
   rw[tau_none B];have l:=hs.aftV_iff.2 ⟨pv c,Zaj k,B,rfl,rfl⟩;rw[Zcf,Zfy]at l;exact(hs.lpOf_aft l).symm
 ·have h:lpOf T N (vt T c).toNat=lpOf T N (vt T d).toNat:=h;obtain⟨G,H⟩:=z c k;obtain⟨X,O⟩:=z d hd;by_cases m:(vt T c).toNat∈(lps T N N.toNat).flatten
  ·obtain⟨L,g,r⟩:=List.mem_flatten.1 m;rw[hs.lpOf_in g r]at h;by_cases p:(vt T d).toNat∈(lps T N N.toNat).flatten
   ·obtain⟨M,u,s⟩:=List.mem_flatten.1 p;rw[hs.lpOf_in u s]at h;subst h;have t:=hs.lps_round g;have R:=t.1;have F:=hs.lps_lt g (zM R);obtain⟨b,A,C⟩:=q _ F;obtain⟨i,hi,P⟩:=zE r;obtain⟨j,S,Q⟩:=zE s;exact(hs.tau_loop t A C i hi c k (by rw[P,H])).symm.trans (hs.tau_loop t A C j S d hd (by rw[Q,O]))
   ·rw[Zpc p]at h;have:=o L g;rw[h]at this;simp at this
  ·rw[Zpc m]at h;by_cases p:(vt T d).toNat∈(lps T N N.toNat).flatten
   ·obtain⟨M,u,s⟩:=List.mem_flatten.1 p;rw[hs.lpOf_in u s]at h;have:=o M u;rw[<- h]at this;simp at this
   ·rw[Zpc p]at h;have h:(vt T c).toNat=(vt T d).toNat:=by simpa using h
    exact hs.tau_at k hd (by omega)
 ·rcases zP.1 g with l|l
  ·obtain⟨v,K,rfl⟩:=zB.1 l;obtain⟨D,E⟩:=zQ.1 K;have D:=zR.1 D;obtain⟨c,k,w⟩:=q v (by omega);refine⟨c,k,?_⟩;show lpOf T N (vt T c).toNat=[v];rw[w,zC];refine Zpc fun h9=>?_
   rw[(hs.flat_inner (by omega)).1 h9]at E;cases E
  ·have t:=hs.lps_round l;obtain⟨c,k,w⟩:=q _ (hs.lps_lt l (zM t.1));refine⟨c,k,?_⟩;show lpOf T N (vt T c).toNat=L;rw[w,zC];exact hs.lpOf_in l (zM t.1)
 ·obtain⟨G,H⟩:=z c k;show lpOf T N (vt T c).toNat∈_;by_cases m:(vt T c).toNat∈(lps T N N.toNat).flatten
  ·obtain⟨L,g,r⟩:=List.mem_flatten.1 m;rw[hs.lpOf_in g r];exact List.mem_append_right _ g
  ·rw[Zpc m];refine List.mem_append_left _ (List.mem_map_of_mem (zQ.2 ⟨zR.2 G,?_⟩));cases hi:Zae T N (((vt T c).toNat:Nat):Int)with
   | true=>rfl
   | false=>exact absurd ((hs.flat_inner (by omega)).2 hi) m
theorem Surf.inner_count(hs:Surf N T):((List.range N.toNat).filter fun v:Nat=>Zae T N (v:Int)).length+(bedges T).length=N.toNat:=by
 rw[<- hs.lps_total];have h:=List.filter_append_perm (fun v:Nat=>Zae T N (v:Int)) (List.range N.toNat);have b:=h.length_eq;rw[zA,List.length_range]at b;have c:((List.range N.toNat).filter fun v:Nat=>!Zae T N (v:Int)).Perm (lps T N N.toNat).flatten:=by
  refine(List.perm_ext_iff_of_nodup (List.nodup_range.filter _) (hs.lps_nodup _)).2 fun v=>?_
  rw[zQ,zR];constructor
  ·rintro⟨a,d⟩;exact(hs.flat_inner (by omega)).2 (by simpa using d)
  ·intro a;obtain⟨L,e,f⟩:=List.mem_flatten.1 a;have:=hs.lps_lt e f;exact⟨by omega,by rw[(hs.flat_inner (by omega)).1 a];rfl⟩
 have a:=c.length_eq;omega
theorem Surf.iE_count(hs:Surf N T):2*iE T (3*T.length)+(bedges T).length=3*T.length:=by
 have u:(bedges T).length=(List.range (3*T.length)).countP fun c=>(opp T c).isNone:=by
  unfold bedges bord;rw[zL,List.countP_eq_length_filter]
 have m:∀c d,c<3*T.length->opp T c=some d->d<3*T.length/\opp T d=some c/\c≠d:=fun c d k h=>by
  refine⟨(hs.opp_iff.1 h).1,hs.opp_symm k h,fun e=>?_⟩;subst e;exact hs.loop3 k (hs.opp_iff.1 h).2.1
 have o:((List.range (3*T.length)).filter fun c=>match opp T c with
   | some d=>decide (c<d)
   | none=>false).length=((List.range (3*T.length)).filter fun c=>match opp T c with
   | some d=>decide (d<c)
   | none=>false).length:=by
  rw[<- zL (f:=fun c=>(opp T c).getD 0)];refine((List.perm_ext_iff_of_nodup ?_ (List.nodup_range.filter _)).2 fun x=>?_).length_eq
  ·refine zbiq (List.nodup_range.filter _) fun a ha b u e=>?_
   obtain⟨p,w⟩:=zQ.1 ha;obtain⟨q,y⟩:=zQ.1 u;have p:=zR.1 p;have q:=zR.1 q;cases g:opp T a with
   | none=>rw[g]at w;cases w
   | some c =>
    cases v:opp T b with
    | none=>rw[v]at y;cases y
    | some d =>
     have e:(opp T a).getD 0=(opp T b).getD 0:=e;rw[g,v]at e;have e:c=d:=e;subst e;have j:=(m a c p g).2.1;rw[(m b c q v).2.1]at j;exact(zO j).symm
  ·rw[zB,zQ,zR];constructor
   ·rintro⟨c,k,rfl⟩;obtain⟨r,n⟩:=zQ.1 k;have r:=zR.1 r;cases g:opp T c with
    | none=>rw[g]at n;cases n
    | some d =>
     obtain⟨j,i,_⟩:=m c d r g;rw[g]at n;refine⟨j,?_⟩;show(match opp T d with
      | some d_1=>decide (d_1<d)
      | none=>false)=true
     rw[i];exact n
   ·rintro⟨j,i⟩;cases g:opp T x with
    | none=>rw[g]at i;cases i
    | some d =>
     obtain⟨s,z,_⟩:=m x d j g;rw[g]at i;refine⟨d,zQ.2 ⟨zR.2 s,?_⟩,by rw[z];rfl⟩;rw[z];exact i
 rw[<- List.countP_eq_length_filter,<- List.countP_eq_length_filter]at o;have t:∀l:List Nat,(∀c∈l,c<3*T.length)->(l.countP fun c=>match opp T c with
   | some d=>decide (c<d)
   | none=>false)+(l.countP fun c=>match opp T c with
   | some d=>decide (d<c)
   | none=>false)+(l.countP fun c=>(opp T c).isNone)=l.length:=fun l=>by
  induction l with
  | nil=>intro _;rfl
  | cons c l A =>
   intro o;have A:=A fun x hx=>o x (List.mem_cons_of_mem _ hx)
   have k:=o c (List.mem_cons_self ..);rw[List.countP_cons,List.countP_cons,List.countP_cons,List.length_cons];cases g:opp T c with
   | none=>simp;omega
   | some d =>
    have C:=(m c d k g).2.2;rcases zK c d with j|j
    ·have i:¬d<c:=by omega
     simp[j,i];omega
    ·have i:d<c:=by omega
     have s:¬c<d:=by omega
     simp[i,s];omega
 have B:=t (List.range (3*T.length)) fun c k=>zR.1 k
 rw[List.length_range]at B;rw[u];have hi:iE T (3*T.length)=(List.range (3*T.length)).countP fun c=>match opp T c with
   | some d=>decide (c<d)
   | none=>false:=rfl
 omega
theorem Surf.even(hs:Surf N T):(N.toNat+(iE T (3*T.length)+(bedges T).length)+T.length+(lps T N N.toNat).length)%2=0:=by
 have a:=(hs.tau_all (3*T.length) zl).2;rw[cyc_nx,hs.cyc_tau]at a;have b:=hs.inner_count;omega
