/- Za6: the edges of a loop, as edges to cut along; no program. -/
import Derived.Test.YtpbdcppaiafbgaaGreatDX
import Derived.Test.YtpbdcppaiafbgaaGreatIA
import Derived.Test.YtpbdcppaiafbgaaGreatSG
import Derived.Test.YtpbdcppaiafbgaaGreatBM
namespace Go.Mesh
def Zbk(lo:List Int):List (Int×Int):=(List.range lo.length).map fun i=>(lo.getD i 0,lo.getD ((i+1)%lo.length) 0)
theorem mem_loopE{lo:List Int}{e:Int×Int}:e∈Zbk lo↔∃i,i<lo.length/\e=(lo.getD i 0,lo.getD ((i+1)%lo.length) 0):=by
 unfold Zbk;rw[zB];constructor
 ·rintro⟨i,hi,rfl⟩;exact⟨i,zR.1 hi,rfl⟩
 ·rintro⟨i,hi,rfl⟩;exact⟨i,zR.2 hi,rfl⟩
theorem zbhq{lo:List Int}(hn:lo.Nodup){i j:Nat}(hi:i<lo.length)(hj:j<lo.length)(h:lo.getD i 0=lo.getD j 0):i=j:=by
 rw[zD,zD,zG hi,zG hj]at h;exact(List.getElem_inj (h₀:=hi) (h₁:=hj) hn).1 h
theorem Zmy{lo:List Int}{i:Nat}(hi:i<lo.length):lo.getD i 0∈lo:=by
 rw[zD,zG hi];exact zM hi
theorem Znl{n i:Nat}(hi:i<n):(i+1<n/\(i+1)%n=i+1)\/(i+1=n/\(i+1)%n=0):=by
 rcases zK (i+1) n with h|h
 ·exact .inl ⟨h,Nat.mod_eq_of_lt h⟩
 ·exact .inr ⟨by omega,by rw[show i+1=n by omega,Nat.mod_self]⟩
theorem Zqy{lo:List Int}(hn:lo.Nodup)(h3:3<=lo.length):((Zbk lo).map nm).Nodup:=by
 unfold Zbk;rw[List.map_map];refine Zca List.nodup_range fun i hi j a he=>?_
 have hi:=zR.1 hi;have a:=zR.1 a;have d:=Nat.mod_lt (i+1) (show 0<lo.length by omega);have e:=Nat.mod_lt (j+1) (show 0<lo.length by omega);rcases nm_eq.1 (show nm (lo.getD i 0,lo.getD ((i+1)%lo.length) 0)=nm (lo.getD j 0,lo.getD ((j+1)%lo.length) 0)from he)with⟨b,_⟩|⟨b,c⟩
 ·exact zbhq hn hi a b
 ·have h:=zbhq hn hi e b;have k:=zbhq hn d a c;rcases Znl hi with⟨_,f⟩|⟨_,f⟩<;>rcases Znl a with⟨_,g⟩|⟨_,g⟩<;>omega
theorem Zkt{lo:List Int}{x:Int}(hx:x ∉ lo)(h3:0<lo.length):∀e∈Zbk lo,e.1≠x/\e.2≠x:=fun e he=>by
 obtain⟨i,hi,rfl⟩:=mem_loopE.1 he;exact⟨fun h=>hx (h ▸ Zmy hi),fun h=>hx (h ▸ Zmy (Nat.mod_lt _ h3))⟩
section
variable {N : Int} {T : List T3} {C : List (Int×Int)}
theorem Zh8(h:Surf N T){v:Int}(hv:0<=v/\v<N)(hi:Zae T N v=true):3<=(Zad T N v).length:=by
 obtain⟨g,r⟩:=h.ring_in hv;have A:=fun(i:Nat) (hi:i<(Zad T N v).length)=>(r.mem _).1 (zM hi)
 rcases zK 2 (Zad T N v).length with w|w
 ·exact w
 ·exfalso;obtain⟨c,n⟩:∃c,c=(Zad T N v)[0]:=⟨_,rfl⟩;have a:=A 0 g;rw[<- n]at a;rcases zK 1 (Zad T N v).length with l|l
  ·have t:=r.step (i:=0) l;have f:=r.turn g hi;obtain⟨d,s⟩:∃d,d=(Zad T N v)[1]:=⟨_,rfl⟩;have b:=A 1 l;rw[<- s]at b;have q:(Zad T N v)[(Zad T N v).length-1]'(by omega)=d:=by rw[s];congr 1;omega
   rw[<- n]at t f;rw[q]at f;rw[show(Zad T N v)[0+1]'l=d from s.symm]at t;obtain⟨E,F,p⟩:=h.aft_iff.1 t;obtain⟨G,H,u⟩:=h.aft_iff.1 f;have D:c/3≠d/3:=fun e=>by
    have C:=h.same_tri a.1 e (by rw[a.2,b.2]);subst C;have:=h.loop3 a.1;rw[p]at this;exact this rfl
   have o:∀x y:Nat,x<3*T.length->y<3*T.length->vt T x=vt T y->vt T (nx x)=vt T (pv y)->vt T (pv x)=vt T (nx y)->x/3<y/3->False:=fun x y hx hy k1 k2 k3 hlt=>by
    refine h.mirror (x/3) (y/3) hlt (by omega) fun k hk=>?_
    have B:3*(x/3)+k=x\/3*(x/3)+k=nx x\/3*(x/3)+k=pv x:=by unfold nx pv;omega
    have j:∀z,z/3=y/3->∃m,m<3/\vt T z=vt T (3*(y/3)+m):=fun z hz=>⟨z%3,by omega,by rw[show 3*(y/3)+z%3=z by omega]⟩
    rcases B with e|e|e<;>rw[e]
    ·rw[k1];exact j y rfl
    ·rw[k2];exact j _ (Zel y)
    ·rw[k3];exact j _ (Zbu y)
   rcases zK (c/3) (d/3)with e|e
   ·exact o c d a.1 b.1 (by rw[a.2,b.2]) u p.symm e
   ·exact o d c b.1 a.1 (by rw[a.2,b.2]) p u.symm (by omega)
  ·have f:=r.turn g hi;have q:(Zad T N v)[(Zad T N v).length-1]'(by omega)=c:=by rw[n];congr 1;omega
   rw[q,<- n]at f;exact h.loop3 a.1 (h.aft_iff.1 f).2.2
theorem Zpr(h:Surf N T){v:Int}(hv:0<=v/\v<N)(hi:Zae T N v=true){c:Nat}(hc:c<3*T.length)(hcv:vt T c=v):eg T c∈Zbk (Zab T N v):=by
 obtain⟨d,r⟩:=h.ring_in hv;have b:=Zcv h hv hi;obtain⟨i,a,rfl⟩:=zE ((r.mem c).2 ⟨hc,hcv⟩);have f:(Zab T N v).length=(Zad T N v).length:=by rw[b,zL]
 have k:∀j (hj:j<(Zad T N v).length),(Zab T N v).getD j 0=vt T (nx (Zad T N v)[j]):=fun j hj=>by
  rw[b,zD,zJ,zG hj];rfl
 refine mem_loopE.2 ⟨i,by omega,?_⟩;rw[f,k i a,k _ (Nat.mod_lt _ d)];refine Prod.ext rfl ?_;show vt T (pv (Zad T N v)[i])=_;rcases Znl a with⟨g,e⟩|⟨g,e⟩
 ·simp only[e];exact(h.aft_iff.1 (r.step g)).2.2.symm
 ·simp only[e];have l:i=(Zad T N v).length-1:=by omega
  have:=r.turn d hi;subst l;exact(h.aft_iff.1 this).2.2.symm
theorem link_edge(h:Surf N T){v:Int}(hv:0<=v/\v<N)(hi:Zae T N v=true){e:Int×Int}(he:e∈Zbk (Zab T N v)):∃c,c<3*T.length/\vt T c=v/\eg T c=e:=by
 obtain⟨d,r⟩:=h.ring_in hv;have b:=Zcv h hv hi;have f:(Zab T N v).length=(Zad T N v).length:=by rw[b,zL]
 obtain⟨i,a,rfl⟩:=mem_loopE.1 he;rw[f]at a ⊢;have l:=(r.mem _).1 (zM a);refine⟨_,l.1,l.2,?_⟩;have k:∀j (hj:j<(Zad T N v).length),(Zab T N v).getD j 0=vt T (nx (Zad T N v)[j]):=fun j hj=>by
  rw[b,zD,zJ,zG hj];rfl
 rw[k i a,k _ (Nat.mod_lt _ d)];refine Prod.ext rfl ?_;show vt T (pv (Zad T N v)[i])=_;rcases Znl a with⟨g,e⟩|⟨g,e⟩
 ·simp only[e];exact(h.aft_iff.1 (r.step g)).2.2.symm
 ·simp only[e];have m:i=(Zad T N v).length-1:=by omega
  have:=r.turn d hi;subst m;exact(h.aft_iff.1 this).2.2.symm
end
section
variable {N M : Int} {T X : List T3} {O : List Int} {v : Int}
theorem Con.closed(h:Surf N T)(P:Nat->Prop)(hP:∀x y,P x->besd T x y=true->P y){a b:Nat}(c:Con T a b)(ha:P a):P b:=by
 obtain⟨d,f⟩:=c
 induction d generalizing b with
 | zero=>rw[rch_zero.1 f];exact ha
 | succ d ih =>
  rcases h.rch_succ.1 f with e|⟨y,e,g⟩
  ·exact ih e
  ·exact hP y b (ih e) g
def AtV(T:List T3)(v:Int)(t:Nat):Prop:=∃c,c<3*T.length/\c/3=t/\vt T c=v
theorem Zh1(_:Surf N T){c d:Nat}(h:opp T c=some d):besd T (c/3) (d/3)=true:=by
 refine besd_iff.2 ⟨c%3,by omega,?_⟩;unfold nb;rw[show 3*(c/3)+c%3=c by omega,h];rfl
theorem of_besd{x y:Nat}(h:besd T x y=true):∃c d,c/3=x/\d/3=y/\opp T c=some d:=by
 obtain⟨k,e,a⟩:=besd_iff.1 h;unfold nb at a;obtain⟨d,b,rfl⟩:=Option.map_eq_some_iff.1 a;exact⟨3*x+k,d,by omega,rfl,b⟩
structure Star (N : Int) (T : List T3) (v : Int) (X : List T3) (O : List Int) : Prop where
 surf:Surf N T
 rng:0<=v/\v<N
 inner:Zae T N v=true
 numb:Numb N T ((Zbk (Zab T N v)).map nm) X O
 parts:Ztf T ((Zbk (Zab T N v)).map nm)
 cut:Surf (O.length:Nat) X
theorem Star.uncut(s:Star N T v X O)(x:Int):nm (v,x)∉(Zbk (Zab T N v)).map nm:=fun h=>by
 obtain⟨e,c,b⟩:=zB.1 h;have d:v ∉ Zab T N v:=fun h=>(Ziv s.surf s.rng h).2.2 rfl
 have f:=Zh8 s.surf s.rng s.inner;have g:(Zab T N v).length=(Zad T N v).length:=by rw[Zcv s.surf s.rng s.inner,zL]
 have:=Zkt d (by omega) e c;rcases nm_eq.1 (show nm (e.1,e.2)=nm (v,x)from b)with⟨a,_⟩|⟨_,a⟩
 ·exact this.1 a
 ·exact this.2 a
theorem Star.oppX(s:Star N T v X O){c d:Nat}(hc:c<3*T.length):opp X c=some d↔opp T c=some d/\nm (eg T c)∉(Zbk (Zab T N v)).map nm:=s.numb.opp_iff s.surf s.parts hc
theorem Star.aftX(s:Star N T v X O){c d:Nat}(hc:c<3*T.length)(hcv:vt T c=v)(ha:aft T c=some d):aft X c=some d:=by
 unfold aft at ha ⊢;obtain⟨o,a,rfl⟩:=Option.map_eq_some_iff.1 ha;rw[(s.oppX (Zam hc)).2 ⟨a,fun h=>?_⟩]
 ·rfl
 ·unfold eg at h;rw[Zf2,Ze2,Ze0,hcv]at h;exact s.uncut _ h
theorem Star.shell(s:Star N T v X O){a b:Nat}(ha:AtV T v a):AtV T v b↔Con X a b:=by
 have D:=s.numb.len;constructor
 ·rintro⟨d,w,rfl,n⟩;obtain⟨c,u,rfl,m⟩:=ha;refine s.surf.closed_all s.rng.1 s.rng.2 (fun x=>Con X (c/3) (x/3)) u m (Con.refl _) (fun x y hx hxv h hxy=>?_) (fun x y hx hxv h hb=>?_) d w n
  ·have f:=s.aftX hx hxv hxy;unfold aft at f;obtain⟨o,g,rfl⟩:=Option.map_eq_some_iff.1 f;have:=Zh1 s.cut g;rw[Zbu]at this;rw[Zbu];exact h.step s.cut this
  ·have A:=(s.surf.bef_iff.1 hb).1;have f:=s.aftX A ((s.surf.bef_vt hb).trans hxv) (s.surf.bef_aft hx hb);unfold aft at f;obtain⟨o,g,j⟩:=Option.map_eq_some_iff.1 f;have:=s.cut.besd_symm (Zh1 s.cut g);rw[Zbu]at this;rw[<- j,Zbu]at h;exact h.step s.cut this
 ·intro h;refine h.closed s.cut (AtV T v) (fun x y hx hxy=>?_) ha;obtain⟨c,d,rfl,rfl,g⟩:=of_besd hxy;have l:c<3*T.length:=by have:=s.cut.opp_lt g;omega
  obtain⟨e,z,C,i⟩:=hx;obtain⟨f,t⟩:=(s.oppX l).1 g;have B:c≠e:=fun j=>by
   subst j;exact t (List.mem_map_of_mem (Zpr s.surf s.rng s.inner z i))
  obtain⟨k,q,r⟩:=s.surf.opp_iff.1 f;have p:e=nx c\/e=pv c:=by unfold nx pv;omega
  rcases p with rfl|rfl
  ·exact⟨pv d,Zaj k,Zel d,r.trans i⟩
  ·exact⟨nx d,Zam k,Zbu d,q.trans i⟩
end
def Clean(T:List T3)(l:List (Int×Int)):Prop:=∀i (h:i<l.length),addC T (l.take i) l[i]=0
theorem addC_zero{T:List T3}{L:List (Int×Int)}{e:Int×Int}:addC T L e=0↔¬oi (facing T e)<0/\¬oi (facing T (e.2,e.1))<0/\nm e ∉ L.map nm:=by
 unfold addC;by_cases a:oi (facing T e)<0<;>by_cases b:oi (facing T (e.2,e.1))<0<;>by_cases c:nm e∈L.map nm<;>simp[a,b,c]
theorem Zhq{T:List T3}{l:List (Int×Int)}(h:Clean T l):Good T l where
 two:=fun e he=>by
  obtain⟨i,hi,rfl⟩:=zE he;obtain⟨a,b,_⟩:=addC_zero.1 (h i hi);exact⟨oi_none a,oi_none b⟩
 once:=by
  refine List.pairwise_iff_getElem.2 fun i j hi hj hij=>?_
  rw[zL]at hi hj;obtain⟨_,_,c⟩:=addC_zero.1 (h j hj);intro e;rw[List.getElem_map,List.getElem_map]at e;refine c (zB.2 ⟨l[i],?_,e⟩);exact List.mem_take_iff_getElem.2 ⟨i,by omega,rfl⟩
def AlongC(N:Int)(T:List T3)(l:List (Int×Int))(c:Int):Prop :=
 (¬Surf N T/\c=11)\/(Surf N T/\∃k,∃h:k<l.length,(∀i (h':i<l.length),i<k->addC T (l.take i) l[i]=0)/\addC T (l.take k) l[k]=c/\c≠0) \/
  (Surf N T/\Clean T l/\((l.any (Zc6 N T l)=true/\c=14)\/(l.any (Zc6 N T l)=false/\4096<(newO N T (l.map nm)).length/\c=7)\/(l.any (Zc6 N T l)=false/\(newO N T (l.map nm)).length<=4096/\c=0)))
noncomputable def pairsL (N : Int) (T : List T3) (l : List (Int×Int)) (Es : List (Int×Int)) : List P4 := (Es.filter fun e => decide (e ∈ l.map nm)).map (Zdk T (newX N T (l.map nm)))
theorem Zfc{T:List T3}{l:List (Int×Int)}(g:Good T l){e:Int×Int}(he:e∈l.map nm):(∃c,facing T e=some c)/\∃d,facing T (e.2,e.1)=some d:=by
 obtain⟨j,k,rfl⟩:=zB.1 he;obtain⟨f,i⟩:=g.two j k;obtain⟨a,b⟩:=j;unfold nm;simp only[]at f i ⊢;rcases Int.le_total a b with h|h
 ·rw[Int.min_eq_left h,Int.max_eq_right h];exact⟨f,i⟩
 ·rw[Int.min_eq_right h,Int.max_eq_left h];exact⟨i,f⟩
theorem pairs_step{N:Int}{T:List T3}{l Es:List (Int×Int)}{k:Nat}(hk:k<Es.length):pairsL N T l (Es.take (k+1))=if Es[k]∈l.map nm then pairsL N T l (Es.take k)++[Zdk T (newX N T (l.map nm)) Es[k]]else pairsL N T l (Es.take k):=by
 unfold pairsL;rw[zT hk,List.filter_append,List.map_append];by_cases h:Es[k]∈l.map nm
 ·rw[if_pos h,List.filter_cons_of_pos (by simpa using h)];rfl
 ·rw[if_neg h,List.filter_cons_of_neg (by simpa using h)];simp
theorem edges_few{T:List T3}{Es:List (Int×Int)}(h:EdgesIs T Es):Es.length<=3*T.length:=by
 have g:Es.Nodup:=h.1.imp fun {a b} hab e=>by subst e;unfold ltE at hab;omega
 have:=Zbt g (m:=(List.range (3*T.length)).map (ek T)) fun e he=>by
  obtain⟨c,d,f⟩:=(h.2 e).1 he;exact zB.2 ⟨c,zR.2 d,f.symm⟩
 rwa [zL,List.length_range]at this
section
variable {N : Int} {T : List T3} {l Es : List (Int×Int)}
theorem nm_nm(e:Int×Int):nm (nm e)=nm e:=by
 unfold nm;exact Prod.ext (by simp only[];omega) (by simp only[];omega)
theorem ek_eg(T:List T3)(c:Nat):ek T (nx c)=nm (eg T c):=by
 unfold ek eg nm;rw[Zf2]
theorem AlongC.zero(h:AlongC N T l 0):Surf N T/\Clean T l/\l.any (Zc6 N T l)=false/\(newO N T (l.map nm)).length<=4096:=by
 rcases h with⟨_,h⟩|⟨_,_,_,_,_,h⟩|⟨a,b,⟨_,h⟩|⟨_,_,h⟩|⟨c,d,_⟩⟩
 ·omega
 ·exact absurd rfl h
 ·omega
 ·omega
 ·exact⟨a,b,c,d⟩
theorem AlongC.is{c:Int}(h:AlongC N T l c)(hs:Surf N T)(hc:Clean T l)(hi:l.any (Zc6 N T l)=false)(hf:(newO N T (l.map nm)).length<=4096):c=0:=by
 rcases h with⟨h,_⟩|⟨_,k,d,_,a,b⟩|⟨_,_,⟨h,_⟩|⟨_,h,_⟩|⟨_,_,h⟩⟩
 ·exact absurd hs h
 ·rw[hc k d]at a;exact absurd a.symm b
 ·rw[hi]at h;cases h
 ·omega
 ·exact h
structure CutOk (N : Int) (T : List T3) (l Es : List (Int×Int)) : Prop where
 surf:Surf N T
 clean:Clean T l
 idle:l.any (Zc6 N T l)=false
 few:(newO N T (l.map nm)).length<=4096
 edges:EdgesIs T Es
theorem CutOk.good(h:CutOk N T l Es):Good T l:=Zhq h.clean
theorem CutOk.parts(h:CutOk N T l Es):Ztf T (l.map nm):=parts_of h.surf h.good fun e he=>by simpa using List.any_eq_false.1 h.idle e he
theorem CutOk.numb(h:CutOk N T l Es):Numb N T (l.map nm) (newX N T (l.map nm)) (newO N T (l.map nm)):=Go.Mesh.numb h.surf
theorem CutOk.cut(h:CutOk N T l Es):Surf ((newO N T (l.map nm)).length:Nat) (newX N T (l.map nm)):=h.numb.surf h.surf h.parts h.few
def Zg9(l Es:List (Int×Int)):List (Int×Int):=Es.filter fun e=>decide (e∈l.map nm)
theorem mem_toldE{e:Int×Int}:e∈Zg9 l Es↔e∈Es/\e∈l.map nm:=by unfold Zg9;rw[zQ,decide_eq_true_eq]
theorem CutOk.mem(h:CutOk N T l Es){e:Int×Int}(he:e∈l.map nm):e∈Es:=by
 obtain⟨c,d⟩:=(Zfc h.good he).1;obtain⟨a,b⟩:=zarq d;obtain⟨f,_,rfl⟩:=zB.1 he;exact(h.edges.2 _).2 ⟨nx c,Zam a,by rw[ek_eg,b,nm_nm]⟩
theorem told_nm{e:Int×Int}(he:e∈Zg9 l Es):nm e=e:=by
 obtain⟨a,_,rfl⟩:=zB.1 (mem_toldE.1 he).2;exact nm_nm a
theorem told_map(l Es:List (Int×Int)):(Zg9 l Es).map nm=Zg9 l Es:=by
 conv=>rhs;rw[<- List.map_id (Zg9 l Es)]
 exact List.map_congr_left fun e he=>told_nm he
theorem CutOk.once(h:CutOk N T l Es):(Zg9 l Es).Nodup:=h.edges.nodup.sublist List.filter_sublist
theorem CutOk.told(h:CutOk N T l Es):Told T (l.map nm) (Zg9 l Es) where
 two:=fun e he=>Zfc h.good (mem_toldE.1 he).2
 once:=by rw[told_map];exact h.once
 all:=fun x=>by rw[told_map,mem_toldE];exact⟨fun hx=>⟨h.mem hx,hx⟩,fun hx=>hx.2⟩
end
section
variable {N : Int} {T : List T3} {l Es : List (Int×Int)}
theorem CutOk.was(h:CutOk N T l Es){c:Nat}(hc:c<3*T.length):∃k:Nat,vt (newX N T (l.map nm)) c=(k:Int)/\k<(newO N T (l.map nm)).length/\(newO N T (l.map nm))[k]? = some (vt T c):=by
 obtain⟨k,b,a⟩:=h.numb.was c hc;exact⟨k,b,(zS.1 a).1,a⟩
theorem CutOk.ends(h:CutOk N T l Es):lowV (newX N T (l.map nm)) ((newO N T (l.map nm)).length:Nat)=lowV T N+2*l.length:=lowV_cut h.numb h.surf h.parts h.good h.cut
theorem endsC_nm(L:List (Int×Int))(v:Int):Zbr L v=(L.map nm).countP fun e=>e.1==v || e.2==v:=by
 unfold Zbr;rw[List.countP_map];refine Zt2 fun e _=>?_
 show(e.1==v || e.2==v)=(min e.1 e.2==v || max e.1 e.2==v);rcases Int.le_total e.1 e.2 with h|h
 ·rw[Int.min_eq_left h,Int.max_eq_right h]
 ·rw[Int.min_eq_right h,Int.max_eq_left h,Bool.or_comm]
theorem idle_nm{L M:List (Int×Int)}(hp:(M.map nm).Perm (L.map nm)){e f:Int×Int}(h:nm e=nm f):Zc6 N T L e=Zc6 N T M f:=by
 have a:∀v,Zbr L v=Zbr M v:=fun v=>by rw[endsC_nm,endsC_nm,hp.countP_eq]
 unfold Zc6;rcases nm_eq.1 (show nm (e.1,e.2)=nm (f.1,f.2)from h)with⟨b,c⟩|⟨b,c⟩
 ·rw[b,c,a,a]
 ·rw[b,c,a,a,Bool.and_comm]
theorem CutOk.other(h:CutOk N T l Es){m:List (Int×Int)}(hp:(m.map nm).Perm (l.map nm)):CutOk N T m Es:=by
 have q:∀x,x∈m.map nm↔x∈l.map nm:=fun x=>hp.mem_iff
 refine⟨h.surf,fun i hi=>addC_zero.2 ?_,?_,?_,h.edges⟩
 ·have s:=(q (nm m[i])).1 (List.mem_map_of_mem (zM hi));obtain⟨⟨a,g⟩,b,k⟩:=Zfc h.good s;have c:∀ {o:Option Nat} {a:Nat},o=some a->¬oi o<0:=fun {o a} h=>by subst h;show ¬((a:Int)<0);omega
  have n:nm m[i]∉(m.take i).map nm:=fun d=>by
   have r:(m.map nm).Nodup:=hp.nodup_iff.2 h.good.once;rw[List.map_take]at d;obtain⟨j,u,p⟩:=List.mem_take_iff_getElem.1 d;have:j=i:=(List.getElem_inj (h₀:=by omega) (h₁:=by rw[zL];exact hi) r).1 (by rw[p,List.getElem_map]);omega
  unfold nm at g k;simp only[]at g k;rcases Int.le_total m[i].1 m[i].2 with d|d
  ·rw[Int.min_eq_left d,Int.max_eq_right d]at g k;exact⟨c g,c k,n⟩
  ·rw[Int.min_eq_right d,Int.max_eq_left d]at g k;exact⟨c k,c g,n⟩
 ·rw[List.any_eq_false];intro e p;obtain⟨f,t,r⟩:=zB.1 ((q (nm e)).1 (List.mem_map_of_mem p));have:=List.any_eq_false.1 h.idle f t;rw[idle_nm hp r]at this;exact this
 ·rw[newO_same q];exact h.few
end
section
variable {N : Int} {T : List T3} {l Es : List (Int×Int)}
