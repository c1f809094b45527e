/- Triangles over numbered vertices, their corners, surfaces. -/
namespace Go.Mesh
abbrev T3:=Int×Int×Int
def vx(t:T3):Nat->Int
 | 0=>t.1
 | 1=>t.2.1
 | _=>t.2.2
def vt(T:List T3)(c:Nat):Int:=vx (T.getD (c/3) (0,0,0)) (c%3)
def nx(c:Nat):Nat:=c-c%3+(c+1)%3
def pv(c:Nat):Nat:=c-c%3+(c+2)%3
theorem Zf2(c:Nat):nx (nx c)=pv c:=by unfold nx pv;omega
theorem Zcf(c:Nat):nx (pv c)=c:=by unfold nx pv;omega
theorem Ze2(c:Nat):pv (nx c)=c:=by unfold nx pv;omega
theorem Zfy(c:Nat):pv (pv c)=nx c:=by unfold nx pv;omega
theorem Zam{c n:Nat}(h:c<3*n):nx c<3*n:=by unfold nx;omega
theorem Zaj{c n:Nat}(h:c<3*n):pv c<3*n:=by unfold pv;omega
theorem Zbu(c:Nat):nx c/3=c/3:=by unfold nx;omega
theorem Zel(c:Nat):pv c/3=c/3:=by unfold pv;omega
theorem Zvi{c d:Nat}(h:nx c=nx d):c=d:=by rw[<- Ze2 c,h,Ze2]
theorem Zr4{c d:Nat}(h:pv c=pv d):c=d:=by rw[<- Zcf c,h,Zcf]
def eg(T:List T3)(c:Nat):Int×Int:=(vt T (nx c),vt T (pv c))
def Zau(p:Nat->Bool):Nat->Nat->Option Nat
 | _,0=>none
 | k,n+1=>if p k then some k else Zau p (k+1) n
theorem Zcr(p:Nat->Bool):∀n k,Zau p k n=none↔∀c,k<=c->c<k+n->p c=false
 | 0,k=>by simp[Zau];intro c b d;omega
 | n+1,k=>by
  unfold Zau
  split
  ·rename_i h;constructor
   ·intro a;cases a
   ·intro a;have:=a k (by omega) (by omega);rw[h]at this;cases this
  ·rename_i h;rw[Zcr p n (k+1)];constructor
   ·intro a c b d;by_cases e:c=k
    ·subst e;simpa using h
    ·exact a c (by omega) (by omega)
   ·intro a c b d;exact a c (by omega) (by omega)
theorem zamq(p:Nat->Bool):∀n k c,Zau p k n=some c↔k<=c/\c<k+n/\p c=true/\∀d,k<=d->d<c->p d=false
 | 0,k,c=>by simp[Zau];intro e f;omega
 | n+1,k,c=>by
  unfold Zau
  split
  ·rename_i h;constructor
   ·intro g;injection g with g;subst g;exact⟨by omega,by omega,h,fun d e f=>by omega⟩
   ·rintro⟨e,f,a,b⟩;by_cases i:c=k
    ·rw[i]
    ·have:=b k (by omega) (by omega);rw[h]at this;cases this
  ·rename_i h;rw[zamq p n (k+1) c];constructor
   ·rintro⟨e,f,a,b⟩;refine⟨by omega,by omega,a,fun d h5 h6=>?_⟩;by_cases j:d=k
    ·subst j;simpa using h
    ·exact b d (by omega) h6
   ·rintro⟨e,f,a,b⟩;refine⟨?_,by omega,a,fun d h5 h6=>b d (by omega) h6⟩;by_cases i:c=k
    ·subst i;exact absurd a h
    ·omega
theorem zbbq{p:Nat->Bool}{n k c:Nat}(h1:k<=c)(h2:c<k+n)(h3:p c=true):∃d,Zau p k n=some d:=by
 cases h:Zau p k n with
 | some d=>exact⟨d,rfl⟩
 | none =>
  have:=(Zcr p n k).1 h c h1 h2;rw[h3]at this;cases this
def facing(T:List T3)(e:Int×Int):Option Nat:=Zau (fun c=>eg T c==e) 0 (3*T.length)
def Zcy(T:List T3)(v:Int):Option Nat:=Zau (fun c=>vt T c==v) 0 (3*T.length)
def opp(T:List T3)(c:Nat):Option Nat:=facing T (vt T (pv c),vt T (nx c))
def aft(T:List T3)(c:Nat):Option Nat:=(opp T (nx c)).map nx
def bef(T:List T3)(c:Nat):Option Nat:=(opp T (pv c)).map pv
def share(T:List T3)(c d:Nat):Prop:=vt T (nx c)=vt T (nx d)\/vt T (nx c)=vt T (pv d)\/vt T (pv c)=vt T (nx d)\/vt T (pv c)=vt T (pv d)
def Fan(T:List T3)(v:Int):Prop:=∀P:Nat->Prop,(∃c,c<3*T.length/\vt T c=v/\P c)->(∀c d,c<3*T.length->vt T c=v->d<3*T.length->vt T d=v->P c->share T c d->P d)->∀c,c<3*T.length->vt T c=v->P c
structure Surf (N : Int) (T : List T3) : Prop where
 n0:0<=N
 nmax:N<=4096
 tmax:T.length<=8192
 rng:∀c,c<3*T.length->0<=vt T c/\vt T c<N
 loop:∀c,c<3*T.length->vt T c≠vt T (nx c)
 once:∀c d,c<3*T.length->d<3*T.length->eg T c=eg T d->c=d
 mirror:∀i j,i<j->j<T.length->¬ ∀k,k<3->∃m,m<3/\vt T (3*i+k)=vt T (3*j+m)
 used:∀v,0<=v->v<N->∃c,c<3*T.length/\vt T c=v
 fan:∀v,0<=v->v<N->Fan T v
section
variable {N : Int} {T : List T3}
theorem Surf.loop2(h:Surf N T){c:Nat}(hc:c<3*T.length):vt T c≠vt T (pv c):=by
 have:=h.loop (pv c) (Zaj hc);rw[Zcf]at this;exact fun e=>this e.symm
theorem Surf.loop3(h:Surf N T){c:Nat}(hc:c<3*T.length):vt T (nx c)≠vt T (pv c):=by
 have:=h.loop (nx c) (Zam hc);rw[Zf2]at this;exact this
theorem zarq{e:Int×Int}{c:Nat}(h:facing T e=some c):c<3*T.length/\eg T c=e:=by
 obtain⟨_,b,a,_⟩:=(zamq _ _ _ _).1 h;exact⟨by omega,by simpa using a⟩
theorem Surf.facing_eg(h:Surf N T){c:Nat}(hc:c<3*T.length):facing T (eg T c)=some c:=by
 obtain⟨d,b⟩:=zbbq (p:=fun d=>eg T d==eg T c) (n:=3*T.length) (k:=0) (c:=c) (by omega) (by omega) (by simp);have a:=zarq b;rw[facing,b,h.once d c a.1 hc a.2]
theorem Surf.facing_iff(h:Surf N T){e:Int×Int}{c:Nat}:facing T e=some c↔c<3*T.length/\eg T c=e :=
 ⟨zarq,fun⟨h1,h2⟩=>by rw[<- h2];exact h.facing_eg h1⟩
theorem Surf.opp_iff(h:Surf N T){c d:Nat}:opp T c=some d↔d<3*T.length/\vt T (nx d)=vt T (pv c)/\vt T (pv d)=vt T (nx c):=by
 unfold opp;rw[h.facing_iff];unfold eg;simp only[Prod.mk.injEq]
theorem Surf.opp_symm(h:Surf N T){c d:Nat}(hc:c<3*T.length)(ho:opp T c=some d):opp T d=some c:=by
 obtain⟨e,a,b⟩:=h.opp_iff.1 ho;exact h.opp_iff.2 ⟨hc,b.symm,a.symm⟩
theorem Surf.aft_iff(h:Surf N T){c d:Nat}:aft T c=some d↔d<3*T.length/\vt T d=vt T c/\vt T (nx d)=vt T (pv c):=by
 unfold aft;rw[Option.map_eq_some_iff];constructor
 ·rintro⟨o,f,rfl⟩;obtain⟨e,a,b⟩:=h.opp_iff.1 f;rw[Ze2]at a;rw[Zf2]at b;exact⟨Zam e,a,by rw[Zf2];exact b⟩
 ·rintro⟨e,a,b⟩;refine⟨pv d,h.opp_iff.2 ⟨Zaj e,?_,?_⟩,Zcf d⟩
  ·rw[Zcf,Ze2];exact a
  ·rw[Zfy,Zf2];exact b
theorem Surf.bef_iff(h:Surf N T){c d:Nat}:bef T c=some d↔d<3*T.length/\vt T d=vt T c/\vt T (pv d)=vt T (nx c):=by
 unfold bef;rw[Option.map_eq_some_iff];constructor
 ·rintro⟨o,f,rfl⟩;obtain⟨e,a,b⟩:=h.opp_iff.1 f;rw[Zfy]at a;rw[Zcf]at b;exact⟨Zaj e,b,by rw[Zfy];exact a⟩
 ·rintro⟨e,a,b⟩;refine⟨nx d,h.opp_iff.2 ⟨Zam e,?_,?_⟩,Ze2 d⟩
  ·rw[Zf2,Zfy];exact b
  ·rw[Ze2,Zcf];exact a
theorem Surf.aft_bef(h:Surf N T){c d:Nat}(hc:c<3*T.length)(ha:aft T c=some d):bef T d=some c:=by
 obtain⟨e,a,b⟩:=h.aft_iff.1 ha;exact h.bef_iff.2 ⟨hc,a.symm,b.symm⟩
theorem Surf.bef_aft(h:Surf N T){c d:Nat}(hc:c<3*T.length)(ha:bef T c=some d):aft T d=some c:=by
 obtain⟨e,a,b⟩:=h.bef_iff.1 ha;exact h.aft_iff.2 ⟨hc,a.symm,b.symm⟩
theorem Surf.share_iff(h:Surf N T){c d:Nat}(hc:c<3*T.length)(hd:d<3*T.length)(hv:vt T c=vt T d)(a:share T c d):c=d\/aft T c=some d\/bef T c=some d:=by
 rcases a with a|a|a|a
 ·refine .inl (Zr4 (h.once _ _ (Zaj hc) (Zaj hd) ?_));unfold eg;rw[Zcf,Zcf,Zfy,Zfy,hv,a]
 ·exact .inr (.inr (h.bef_iff.2 ⟨hd,hv.symm,a.symm⟩))
 ·exact .inr (.inl (h.aft_iff.2 ⟨hd,hv.symm,a.symm⟩))
 ·refine .inl (Zvi (h.once _ _ (Zam hc) (Zam hd) ?_));unfold eg;rw[Zf2,Zf2,Ze2,Ze2,hv,a]
end
def runF(f:Nat->Option Nat)(b:Nat):Nat->Nat->List Nat
 | 0,c=>[c]
 | n+1,c=>c::match f c with
  | none=>[]
  | some d=>if d=b then[]else runF f b n d
theorem Zfw:∀(n:Nat) (l:List Nat),l.Nodup->(∀x∈l,x<n)->l.length<=n
 | 0,l,_,h=>by
  cases l with
  | nil=>simp
  | cons x l=>have:=h x (by simp);omega
 | n+1,l,hn,h=>by
  have a:=Zfw n (l.erase n) (hn.erase n) fun x hx=>by
   have b:=(hn.mem_erase_iff).1 hx;have:=h x b.2;have:=b.1;omega
  by_cases c:n∈l
  ·rw[List.length_erase_of_mem c]at a;omega
  ·rw[List.erase_of_not_mem c]at a;omega
def Steps(f:Nat->Option Nat)(l:List Nat):Prop:=∀i (h:i+1<l.length),f l[i]=some l[i+1]
structure IsRun (f : Nat -> Option Nat) (b n : Nat) (l : List Nat) : Prop where
 ne:0<l.length
 head:l[0]=b
 nodup:l.Nodup
 lt:∀x∈l,x<n
 steps:Steps f l
 last:f (l[l.length-1]'(by omega))=none\/f (l[l.length-1]'(by omega))=some b
theorem steps_snoc{f:Nat->Option Nat}{l:List Nat}{c d:Nat}(h:Steps f (l++[c]))(hd:f c=some d):Steps f (l++[c]++[d]):=by
 intro i hi;by_cases a:i+1<(l++[c]).length
 ·rw[List.getElem_append_left (by omega),List.getElem_append_left a];exact h i a
 ·have b:i=l.length:=by simp at a hi;omega
  subst b;simp[hd]
theorem run_from{f:Nat->Option Nat}{b n:Nat}(inj:∀c d x,f c=some x->f d=some x->c=d)(hlt:∀c d,f c=some d->d<n) :
  ∀(k c:Nat) (pre:List Nat),(pre++[c]).Nodup->(∀x∈pre++[c],x<n)->Steps f (pre++[c])->(pre++[c])[0]'(by simp)=b->n<=k+pre.length->IsRun f b n (pre++runF f b k c)
 | 0,c,pre,hn,hl,_,_,hk=>by
  have:=Zfw n _ hn hl;simp at this;omega
 | k+1,c,pre,hn,hl,hs,hb,hk=>by
  have i:f c=none\/f c=some b->IsRun f b n (pre++[c]):=fun h=>⟨by simp,hb,hn,hl,hs,by simpa using h⟩
  unfold runF;cases l:f c with
  | none=>exact i (.inl l)
  | some d =>
   by_cases g:d=b
   ·simp only[if_pos g];exact i (.inr (by rw[l,g]))
   ·simp only[if_neg g];have m:d ∉ pre++[c]:=by
     intro u;obtain⟨j,q,p⟩:=List.getElem_of_mem u;cases j with
     | zero=>exact g (by rw[<- p,hb])
     | succ j =>
      have o:=hs j q;rw[p]at o;have s:=inj _ _ _ o l;have t:(pre++[c])[j]'(by omega)=(pre++[c])[pre.length]'(by simp):=by rw[s];simp
      have v:=(List.getElem_inj hn).1 t;simp at q;omega
    have r:=run_from (b:=b) inj hlt k d (pre++[c]) (List.nodup_append.2 ⟨hn,by simp,fun a ha x hx e=>by simp at hx;subst hx;exact m (e ▸ ha)⟩)
     (fun x hx=>by
       rcases List.mem_append.1 hx with h|h;· exact hl x h
       ·have:x=d:=by simpa using h
        rw[this];exact hlt c d l)
     (steps_snoc hs l) (by rw[List.getElem_append_left (by simp)];exact hb) (by rw[List.length_append];simp only[List.length_cons,List.length_nil];omega)
    rw[List.append_assoc]at r;exact r
theorem run_is{f:Nat->Option Nat}{b n:Nat}(inj:∀c d x,f c=some x->f d=some x->c=d)(hlt:∀c d,f c=some d->d<n)(hb:b<n):IsRun f b n (runF f b n b):=by
 have:=run_from (b:=b) inj hlt n b [] (by simp) (by simpa using hb) (fun i h=>by simp at h) rfl (by simp);simpa using this
