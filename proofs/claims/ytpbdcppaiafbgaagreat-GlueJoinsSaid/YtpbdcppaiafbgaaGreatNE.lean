/- Za6: the two border loops that a star's cut makes; no. -/
import Derived.Test.YtpbdcppaiafbgaaGreatOP
namespace Go.Mesh
section
variable {N : Int} {T X : List T3} {O : List Int} {v : Int}
theorem Surf.con_at(hs:Surf N T){c d:Nat}(hc:c<3*T.length)(hd:d<3*T.length)(h:vt T c=vt T d):Con T (c/3) (d/3):=by
 have e:=hs.rng c hc;refine hs.closed_all e.1 e.2 (fun x=>Con T (c/3) (x/3)) hc rfl (Con.refl _) (fun x y hx hxv h ha=>?_) (fun x y hx hxv h hb=>?_) d hd h.symm
 ·unfold aft at ha;obtain⟨o,a,rfl⟩:=Option.map_eq_some_iff.1 ha;have:=Zh1 hs a;rw[Zbu]at this;rw[Zbu];exact h.step hs this
 ·have b:=hs.bef_aft hx hb;unfold aft at b;obtain⟨o,a,f⟩:=Option.map_eq_some_iff.1 b;have:=hs.besd_symm (Zh1 hs a);rw[Zbu]at this;rw[<- f,Zbu]at h;exact h.step hs this
theorem Round.into{L M:List Nat}(hL:Round T L)(hM:Round T M){x:Nat}(h1:x∈L)(h2:x∈M):∀y∈M,y∈L:=by
 obtain⟨k,w,rfl⟩:=zE h2;have n:∀t:Nat,∃z:Nat,jAt M ((k:Int)+t)=(z:Int)/\z∈L:=by
  intro t
  induction t with
  | zero =>
   obtain⟨i,hi,a,p⟩:=hM.at_ ((k:Int)+(0:Nat));have h:i=k:=by
    rw[Int.emod_eq_of_lt (by omega) (by omega)]at p;omega
   subst h;exact⟨_,a,h1⟩
  | succ t ih =>
   obtain⟨z,a,f⟩:=ih;obtain⟨i,hi,d,e⟩:=hM.at_ ((k:Int)+t);obtain⟨m,v,q,r⟩:=hM.at_ ((k:Int)+(t+1:Nat));have g:m=(i+1)%M.length:=by
    have:(m:Int)=((i+1)%M.length:Nat):=by
     rw[r,show(k:Int)+(t+1:Nat)=((k:Int)+t)+1 by omega,Int.natCast_emod,Int.natCast_add,e];exact(Int.emod_add_emod _ (M.length:Int) 1).symm
    exact Int.ofNat.inj this
   subst g;have c:=hM.2.2 i hi;rw[<- d,a]at c;obtain⟨j,l,rfl⟩:=zE f;have o:=hL.2.2 j l;rw[o]at c;refine⟨_,q,?_⟩;rw[<- Int.ofNat.inj (zO c)];exact zM _
 intro y u;obtain⟨j,l,rfl⟩:=zE u;have A:(0:Int)<(M.length:Int):=by omega
 obtain⟨t,s⟩:∃t:Nat,((j:Int)-k)%(M.length:Int)=t:=⟨(((j:Int)-k)%(M.length:Int)).toNat,by have:=Int.emod_nonneg ((j:Int)-k) (by omega:(M.length:Int)≠0);omega⟩;obtain⟨z,a,f⟩:=n t;obtain⟨i,hi,d,e⟩:=hM.at_ ((k:Int)+t);have b:(i:Int)=j:=by
  rw[e,<- s,Int.add_emod_emod,show(k:Int)+((j:Int)-k)=j by omega,Int.emod_eq_of_lt (by omega) (by omega)]
 have b:i=j:=by omega
 subst b;rw[d]at a;rw[Int.ofNat.inj a];exact f
theorem Round.same_len{L M:List Nat}(hL:Round T L)(hM:Round T M){x:Nat}(h1:x∈L)(h2:x∈M):L.length=M.length :=
 Nat.le_antisymm (Zbt hL.2.1 fun y hy=>hM.into hL h2 h1 y hy) (Zbt hM.2.1 fun y hy=>hL.into hM h1 h2 y hy)
theorem fam_le{A B:List (List Nat)}(hA:∀L∈A,Round T L)(hB:∀L∈B,Round T L)(hd:A.Pairwise fun L M=>∀a∈L,∀b∈M,a≠b)(hc:∀L∈A,∃M∈B,∃x∈L,x∈M):A.length<=B.length:=by
 have d:∀L:List Nat,∃M,L∈A->M∈B/\∃x∈L,x∈M:=fun L=>by
  by_cases h:L∈A
  ·obtain⟨M,c,g⟩:=hc L h;exact⟨M,fun _=>⟨c,g⟩⟩
  ·exact⟨[],fun h9=>absurd h9 h⟩
 obtain⟨f,i⟩:∃f:List Nat->List Nat,∀L,L∈A->f L∈B/\∃x∈L,x∈f L:=⟨fun L=>Classical.choose (d L),fun L=>Classical.choose_spec (d L)⟩;have o:(A.map f).Nodup:=by
  unfold List.Nodup;rw[List.pairwise_map];refine hd.imp_of_mem fun {L M} c g h3 h4=>?_
  obtain⟨p,x,j,k⟩:=i L c;obtain⟨_,y,l,e⟩:=i M g;rw[<- h4]at e;exact h3 y ((hA L c).into (hB _ p) j k y e) y l rfl
 have:=Zbt o (m:=B) fun M hM=>by
  obtain⟨L,n,rfl⟩:=zB.1 hM;exact(i L n).1
 rwa [zL]at this
theorem Surf.lps_pair(hs:Surf N T)(k:Nat):(lps T N k).Pairwise fun L M=>∀a∈L,∀b∈M,a≠b:=(List.pairwise_flatten.1 (hs.lps_nodup k)).2
def rl(g:Int->Int)(m:Nat):List Nat:=(List.range m).map fun i:Nat=>(g (i:Int)).toNat
theorem Zvy(g:Int->Int)(m:Nat):(rl g m).length=m:=by unfold rl;simp
theorem rl_get{g:Int->Int}{m i:Nat}(hi:i<(rl g m).length):(rl g m)[i]=(g (i:Int)).toNat:=by
 have h:(rl g m)[i]? = some (g (i:Int)).toNat:=by
  have a:=hi;rw[Zvy]at a;unfold rl;rw[zJ,List.getElem?_range a];rfl
 exact(zS.1 h).2
theorem rl_mem{g:Int->Int}{m:Nat}(h0:0<m)(hper:∀i j:Int,i%(m:Int)=j%(m:Int)->g i=g j)(j:Int):(g j).toNat∈rl g m:=by
 unfold rl;have a:=Int.emod_nonneg j (by omega:(m:Int)≠0);have b:=Int.emod_lt_of_pos j (by omega:(0:Int)<m);refine zB.2 ⟨(j%(m:Int)).toNat,zR.2 (by omega),?_⟩;rw[Int.toNat_of_nonneg a,hper (j%(m:Int)) j (Int.emod_emod_of_dvd j (Int.dvd_refl _))]
theorem rl_in{g:Int->Int}{m x:Nat}(h:x∈rl g m):∃j:Int,(g j).toNat=x:=by
 obtain⟨i,_,a⟩:=zB.1 h;exact⟨_,a⟩
theorem round_of{g:Int->Int}{m:Nat}(h0:0<m)(hp:∀j,0<=g j)(hper:∀i j:Int,i%(m:Int)=j%(m:Int)->g i=g j)(hinj:∀i j,g i=g j->i%(m:Int)=j%(m:Int))(ha:∀j,aftV T (g j)=some (g (j+1))):Round T (rl g m):=by
 refine⟨by rw[Zvy];exact h0,?_,fun i hi=>?_⟩
 ·refine Zca List.nodup_range fun i hi j b a=>?_
  have hi:=zR.1 hi;have b:=zR.1 b;have a:(g (i:Int)).toNat=(g (j:Int)).toNat:=a;have d:=hp (i:Int);have e:=hp (j:Int);have c:=hinj i j (by omega);rw[Int.emod_eq_of_lt (by omega) (by omega),Int.emod_eq_of_lt (by omega) (by omega)]at c;omega
 ·rw[rl_get,rl_get,Int.toNat_of_nonneg (hp _),Int.toNat_of_nonneg (hp _),ha];refine congrArg some (hper _ _ ?_);rw[Zvy,Int.natCast_emod];exact(Int.emod_emod_of_dvd _ (Int.dvd_refl _)).symm
def lk(T:List T3)(N v j:Int):Int:=(Zab T N v).getD (j%((Zab T N v).length:Int)).toNat 0
def lkC(T:List T3)(N v j:Int):Nat:=Zcd T (lk T N v j,lk T N v (j+1))
def lkD(T:List T3)(N v j:Int):Nat:=Zcd T (lk T N v (j+1),lk T N v j)
end
section
variable {N : Int} {T X : List T3} {O : List Int} {v : Int}
theorem Star.three(s:Star N T v X O):3<=(Zab T N v).length:=by
 rw[Zdy s.surf s.rng,if_pos s.inner];exact Zh8 s.surf s.rng s.inner
theorem Star.lk_at(s:Star N T v X O)(j:Int):(j%((Zab T N v).length:Int)).toNat<(Zab T N v).length/\(((j%((Zab T N v).length:Int)).toNat:Nat):Int)=j%((Zab T N v).length:Int):=by
 have c:=s.three;have a:=Int.emod_nonneg j (by omega:((Zab T N v).length:Int)≠0);have b:=Int.emod_lt_of_pos j (by omega:(0:Int)<((Zab T N v).length:Int));omega
theorem Star.lk_mem(s:Star N T v X O)(j:Int):lk T N v j∈Zab T N v:=Zmy (s.lk_at j).1
theorem Zrx{i j:Int}(h:i%((Zab T N v).length:Int)=j%((Zab T N v).length:Int)):lk T N v i=lk T N v j:=by unfold lk;rw[h]
theorem Star.lk_inj(s:Star N T v X O){i j:Int}(h:lk T N v i=lk T N v j):i%((Zab T N v).length:Int)=j%((Zab T N v).length:Int):=by
 have a:=s.lk_at i;have b:=s.lk_at j;have:=zbhq (Zcs s.surf s.rng) a.1 b.1 h;omega
theorem mod_succ{m i j:Int}:(i+1)%m=(j+1)%m↔i%m=j%m:=by
 rw[Int.emod_eq_emod_iff_emod_sub_eq_zero,Int.emod_eq_emod_iff_emod_sub_eq_zero,show i+1-(j+1)=i-j by omega]
theorem mod_neg{m i j:Int}:(-i)%m=(-j)%m↔i%m=j%m:=by
 rw[Int.emod_eq_emod_iff_emod_sub_eq_zero,Int.emod_eq_emod_iff_emod_sub_eq_zero,show -i - -j = -(i-j) by omega];constructor
 ·intro h;have:=Int.dvd_of_emod_eq_zero h;exact Int.emod_eq_zero_of_dvd (Int.dvd_neg.1 this)
 ·intro h;have:=Int.dvd_of_emod_eq_zero h;exact Int.emod_eq_zero_of_dvd (Int.dvd_neg.2 this)
theorem Star.lk_step(s:Star N T v X O)(j:Int):(lk T N v j,lk T N v (j+1))∈Zbk (Zab T N v):=by
 obtain⟨a,b⟩:=s.lk_at j;refine mem_loopE.2 ⟨_,a,?_⟩;unfold lk;refine Prod.ext rfl (congrArg (fun k=>(Zab T N v).getD k 0) ?_);have e:((((j%((Zab T N v).length:Int)).toNat+1)%(Zab T N v).length:Nat):Int)=(j+1)%((Zab T N v).length:Int):=by
  rw[Int.natCast_emod,Int.natCast_add,b];exact Int.emod_add_emod j _ 1
 omega
theorem Star.lk_of(s:Star N T v X O){e:Int×Int}(h:e∈Zbk (Zab T N v)):∃j:Int,e=(lk T N v j,lk T N v (j+1)):=by
 obtain⟨i,hi,rfl⟩:=mem_loopE.1 h;refine⟨(i:Int),?_⟩;unfold lk;have a:=s.three;refine Prod.ext (congrArg (fun k=>(Zab T N v).getD k 0) ?_) (congrArg (fun k=>(Zab T N v).getD k 0) ?_)
 ·rw[Int.emod_eq_of_lt (by omega) (by omega)];rfl
 ·show(i+1)%(Zab T N v).length=(((i:Int)+1)%((Zab T N v).length:Int)).toNat;have e:(((i+1)%(Zab T N v).length:Nat):Int)=((i:Int)+1)%((Zab T N v).length:Int):=by rw[Int.natCast_emod,Int.natCast_add];rfl
  omega
theorem Star.two(s:Star N T v X O)(hop:∀c,c<3*T.length->vt T c=v->∃d,opp T c=some d)(j:Int) :
  lkC T N v j<3*T.length/\lkD T N v j<3*T.length/\eg T (lkC T N v j)=(lk T N v j,lk T N v (j+1))/\eg T (lkD T N v j)=(lk T N v (j+1),lk T N v j)/\opp T (lkC T N v j)=some (lkD T N v j)/\vt T (lkC T N v j)=v /\
  opp X (lkC T N v j)=none/\opp X (lkD T N v j)=none:=by
 have b:=s.surf;have i:=s.lk_step j;obtain⟨c,e,g,f⟩:=link_edge b s.rng s.inner i;have l:facing T (lk T N v j,lk T N v (j+1))=some c:=by rw[<- f];exact b.facing_eg e
 have m:lkC T N v j=c:=by unfold lkC Zcd;rw[l];rfl
 obtain⟨d,k⟩:=hop c e g;have h:facing T (lk T N v (j+1),lk T N v j)=some d:=by
  have:opp T c=facing T ((eg T c).2,(eg T c).1):=rfl;rw[f]at this;exact this.symm.trans k
 have n:lkD T N v j=d:=by unfold lkD Zcd;rw[h];rfl
 have a:=b.facing_iff.1 h;rw[m,n];refine⟨e,a.1,f,a.2,k,g,?_,?_⟩
 ·refine(s.numb.bord b s.parts e).2 (.inr ?_);rw[f];exact List.mem_map_of_mem i
 ·refine(s.numb.bord b s.parts a.1).2 (.inr ?_);rw[a.2,<- Ze0];exact List.mem_map_of_mem i
theorem Star.cut_at(s:Star N T v X O){f:Nat}(hf:f<3*T.length)(h:nm (eg T f)∈(Zbk (Zab T N v)).map nm):∃j:Int,f=lkC T N v j\/f=lkD T N v j:=by
 obtain⟨e,g,d⟩:=zB.1 h;obtain⟨j,rfl⟩:=s.lk_of g;refine⟨j,?_⟩;have a:=s.surf.facing_eg hf;rcases nm_eq.1 (show nm (lk T N v j,lk T N v (j+1))=nm ((eg T f).1,(eg T f).2)from d)with⟨b,c⟩|⟨b,c⟩
 ·left;unfold lkC Zcd;rw[b,c];show f=(facing T (eg T f)).getD 0;rw[a];rfl
 ·right;unfold lkD Zcd;rw[b,c];show f=(facing T (eg T f)).getD 0;rw[a];rfl
def lkA(T X:List T3)(N v j:Int):Int:=vt X (nx (lkC T N v j))
def lkB(T X:List T3)(N v j:Int):Int:=vt X (pv (lkD T N v j))
theorem Zu6{i j:Int}(h:i%((Zab T N v).length:Int)=j%((Zab T N v).length:Int)):lkC T N v i=lkC T N v j:=by
 unfold lkC;rw[Zrx h,Zrx (mod_succ.2 h)]
theorem Zu7{i j:Int}(h:i%((Zab T N v).length:Int)=j%((Zab T N v).length:Int)):lkD T N v i=lkD T N v j:=by
 unfold lkD;rw[Zrx h,Zrx (mod_succ.2 h)]
theorem Star.xrng(s:Star N T v X O){c:Nat}(hc:c<3*T.length):0<=vt X c/\vt X c<(O.length:Nat):=s.numb.rngX c (by rw[s.numb.len];exact hc)
theorem Star.keep(s:Star N T v X O){x:Int}(hx:x ∉ Zab T N v){c:Nat}(hc:c<3*T.length)(hcv:vt T c=x):vt X c=x:=by
 have g:=s.surf;have u:=s.three;have i:=g.rng c hc;rw[hcv]at i;have j:∀y,nm (x,y)∉(Zbk (Zab T N v)).map nm:=fun y h=>by
  obtain⟨e,r,o⟩:=zB.1 h;have a:=Zkt hx (by omega) e r;rcases nm_eq.1 (show nm (e.1,e.2)=nm (x,y)from o)with⟨d,_⟩|⟨_,d⟩
  ·exact a.1 d
  ·exact a.2 d
 have n:=s.numb.old x.toNat (by omega);have l:((x.toNat:Nat):Int)=x:=Int.toNat_of_nonneg i.1;obtain⟨b,f,q⟩:=s.numb.used x.toNat (zS.1 n).1;obtain⟨k,o,d⟩:=s.numb.was b f;have t:k=x.toNat:=by omega
 subst t;rw[n,l]at d;have p:vt T b=x:=(zO d).symm;have m:Sect T ((Zbk (Zab T N v)).map nm) b c:=by
  refine g.closed_all i.1 i.2 (fun y=>Sect T ((Zbk (Zab T N v)).map nm) b y) f p (Sect.refl b) (fun y z hy hyv h ha=>?_) (fun y z hy hyv h f=>?_) c hc hcv
  ·refine h.trans (Sect.step hy ha fun a=>?_);unfold ctB at a;rw[g.aft_vt ha,hyv]at a;exact j _ a
  ·refine h.trans (Sect.step (g.bef_iff.1 f).1 (g.bef_aft hy f) fun a=>?_).symm;unfold ctB at a;rw[hyv]at a;exact j _ a
 rw[<- (s.numb.same b c f hc).2 m,q,l]
structure Ringed (N : Int) (T : List T3) (v : Int) (X : List T3) (O : List Int) : Prop where
 star:Star N T v X O
 hop:∀c,c<3*T.length->vt T c=v->∃d,opp T c=some d
 hin:∀u∈Zab T N v,Zae T N u=true
theorem Ringed.no_aft(r:Ringed N T v X O){x:Int}(hx:x∈Zab T N v):aftV T x=none:=by
 have a:=r.star.surf.aftV_inner (v:=x) (let h:=Ziv r.star.surf r.star.rng hx;⟨h.1,h.2.1⟩);rw[r.hin x hx]at a;exact Option.isNone_iff_eq_none.1 a.symm
theorem Ringed.apart(r:Ringed N T v X O)(i j:Int){c d:Nat}(hc:c/3=lkC T N v i/3)(hd:d/3=lkD T N v j/3):vt X c≠vt X d:=fun h=>by
 have s:=r.star;obtain⟨b,_,_,_,_,e,_,_⟩:=s.two r.hop i;obtain⟨f,n,_,_,g,k,_,_⟩:=s.two r.hop j;have m:=s.numb.len;have a:=s.cut.con_at (c:=c) (d:=d) (by omega) (by omega) h;rw[hc,hd]at a;have l:AtV T v (lkC T N v i/3):=⟨_,b,rfl,e⟩;exact s.across f k g ((s.shell l).2 a)
theorem Ringed.next(r:Ringed N T v X O){f:Nat}(hf:f<3*T.length)(k:opp X f=none)(hl:vt T (nx f)∈Zab T N v):∃j:Int,(vt X (nx f)=vt X (pv (lkC T N v j))/\vt T (nx f)=lk T N v (j+1))\/(vt X (nx f)=vt X (pv (lkD T N v j))/\vt T (nx f)=lk T N v j):=by
 have s:=r.star;have n:=s.surf;have o:=s.numb.len;obtain⟨b,k⟩:=s.cut.aftV_on (s.cut.aftV_iff.2 ⟨f,by omega,k,rfl,rfl⟩);obtain⟨g,p,m,d,_⟩:=s.cut.aftV_iff.1 k;have c:g<3*T.length:=by omega
 have i:vt T (pv g)=vt T (nx f):=s.numb.vtT (Zaj c) (Zam hf) d;rcases(s.numb.bord n s.parts c).1 m with h|h
 ·have l:=r.no_aft hl;rw[<- i,(n.aftV_iff (v:=vt T (pv g)) (a:=vt T (nx g))).2 ⟨g,c,h,rfl,rfl⟩]at l;cases l
 ·obtain⟨j,rfl|rfl⟩:=s.cut_at c h
  ·obtain⟨_,_,e,_⟩:=s.two r.hop j;exact⟨j,.inl ⟨d.symm,i.symm.trans (congrArg Prod.snd e)⟩⟩
  ·obtain⟨_,_,_,e,_⟩:=s.two r.hop j;exact⟨j,.inr ⟨d.symm,i.symm.trans (congrArg Prod.snd e)⟩⟩
theorem Ringed.nextC(r:Ringed N T v X O)(j:Int):vt X (pv (lkC T N v j))=lkA T X N v (j+1):=by
 have s:=r.star;obtain⟨d,_,e,_,_,_,f,_⟩:=s.two r.hop (j+1);have b:vt T (nx (lkC T N v (j+1)))=lk T N v (j+1):=congrArg Prod.fst e;obtain⟨i,⟨a,c⟩|⟨a,_⟩⟩:=r.next d f (by rw[b];exact s.lk_mem _)
 ·unfold lkA;rw[a];rw[b]at c;rw[Zu6 (mod_succ.1 (s.lk_inj c))]
 ·exact absurd a (r.apart (j+1) i (Zbu _) (Zel _))
theorem Ringed.nextD(r:Ringed N T v X O)(j:Int):vt X (nx (lkD T N v j))=lkB T X N v (j+1):=by
 have s:=r.star;obtain⟨_,d,_,e,_,_,_,f⟩:=s.two r.hop j;have b:vt T (nx (lkD T N v j))=lk T N v (j+1):=congrArg Prod.fst e;obtain⟨i,⟨a,_⟩|⟨a,c⟩⟩:=r.next d f (by rw[b];exact s.lk_mem _)
 ·exact absurd a.symm (r.apart i j (Zel _) (Zbu _))
 ·unfold lkB;rw[a];rw[b]at c;rw[Zu7 (s.lk_inj c)]
theorem Ringed.was(r:Ringed N T v X O)(j:Int):vt T (nx (lkC T N v j))=lk T N v j/\vt T (pv (lkD T N v j))=lk T N v j:=by
 obtain⟨_,_,a,b,_⟩:=r.star.two r.hop j;exact⟨congrArg Prod.fst a,congrArg Prod.snd b⟩
theorem Ringed.aftA(r:Ringed N T v X O)(j:Int):aftV X (lkA T X N v (j+1))=some (lkA T X N v j):=by
 obtain⟨c,_,_,_,_,_,a,_⟩:=r.star.two r.hop j;have b:=r.star.numb.len;exact r.star.cut.aftV_iff.2 ⟨_,by omega,a,r.nextC j,rfl⟩
theorem Ringed.aftB(r:Ringed N T v X O)(j:Int):aftV X (lkB T X N v j)=some (lkB T X N v (j+1)):=by
 obtain⟨_,c,_,_,_,_,_,a⟩:=r.star.two r.hop j;have b:=r.star.numb.len;exact r.star.cut.aftV_iff.2 ⟨_,by omega,a,rfl,r.nextD j⟩
theorem Ringed.rngA(r:Ringed N T v X O)(j:Int):0<=lkA T X N v j:=(r.star.xrng (Zam (r.star.two r.hop j).1)).1
theorem Ringed.rngB(r:Ringed N T v X O)(j:Int):0<=lkB T X N v j:=(r.star.xrng (Zaj (r.star.two r.hop j).2.1)).1
theorem Ringed.injA(r:Ringed N T v X O){i j:Int}(h:lkA T X N v i=lkA T X N v j):i%((Zab T N v).length:Int)=j%((Zab T N v).length:Int):=by
 have s:=r.star;have a:=s.numb.vtT (Zam (s.two r.hop i).1) (Zam (s.two r.hop j).1) h;rw[(r.was i).1,(r.was j).1]at a;exact s.lk_inj a
theorem Ringed.injB(r:Ringed N T v X O){i j:Int}(h:lkB T X N v i=lkB T X N v j):i%((Zab T N v).length:Int)=j%((Zab T N v).length:Int):=by
 have s:=r.star;have a:=s.numb.vtT (Zaj (s.two r.hop i).2.1) (Zaj (s.two r.hop j).2.1) h;rw[(r.was i).2,(r.was j).2]at a;exact s.lk_inj a
def loA(T X:List T3)(N v:Int):List Nat:=rl (fun j=>lkA T X N v (-j)) (Zab T N v).length
def loB(T X:List T3)(N v:Int):List Nat:=rl (fun j=>lkB T X N v j) (Zab T N v).length
theorem Ringed.roundA(r:Ringed N T v X O):Round X (loA T X N v):=by
 have a:=r.star.three;refine round_of (by omega) (fun j=>r.rngA _) (fun i j h=>?_) (fun i j h=>mod_neg.1 (r.injA h)) fun j=>?_
 ·show vt X _=vt X _;rw[Zu6 (mod_neg.2 h)]
 ·have:=r.aftA (-(j+1))
  rwa [show -(j+1)+1 = -j by omega]at this
theorem Ringed.roundB(r:Ringed N T v X O):Round X (loB T X N v):=by
 have a:=r.star.three;refine round_of (by omega) (fun j=>r.rngB _) (fun i j h=>?_) (fun i j h=>r.injB h) fun j=>r.aftB j
 show vt X _=vt X _;rw[Zu7 h]
theorem Ringed.memA(r:Ringed N T v X O)(j:Int):(lkA T X N v j).toNat∈loA T X N v:=by
 have a:=r.star.three;have:=rl_mem (g:=fun j=>lkA T X N v (-j)) (m:=(Zab T N v).length) (by omega) (fun i j h=>by show vt X _=vt X _;rw[Zu6 (mod_neg.2 h)]) (-j)
 rwa [Int.neg_neg]at this
theorem Ringed.memB(r:Ringed N T v X O)(j:Int):(lkB T X N v j).toNat∈loB T X N v:=by
 have a:=r.star.three;exact rl_mem (g:=fun j=>lkB T X N v j) (m:=(Zab T N v).length) (by omega) (fun i j h=>by show vt X _=vt X _;rw[Zu7 h]) j
theorem rl_inA{x:Nat}(h:x∈loA T X N v):∃j:Int,(lkA T X N v j).toNat=x:=by
 obtain⟨j,a⟩:=rl_in h;exact⟨-j,a⟩
theorem rl_inB{x:Nat}(h:x∈loB T X N v):∃j:Int,(lkB T X N v j).toNat=x:=rl_in h
theorem Ringed.cases(r:Ringed N T v X O){x b:Int}(h:aftV X x=some b):(∃y,aftV T x=some y)\/(∃j,x=lkA T X N v j)\/∃j,x=lkB T X N v j:=by
 have s:=r.star;have k:=s.surf;have l:=s.numb.len;obtain⟨g,n,i,d,_⟩:=s.cut.aftV_iff.1 h;have c:g<3*T.length:=by omega
 rcases(s.numb.bord k s.parts c).1 i with e|e
 ·have f:=(k.aftV_iff (v:=vt T (pv g)) (a:=vt T (nx g))).2 ⟨g,c,e,rfl,rfl⟩;have m:vt T (pv g)∉Zab T N v:=fun h9=>by rw[r.no_aft h9]at f;cases f
  have:=s.keep m (Zaj c) rfl;rw[<- d,this];exact .inl ⟨_,f⟩
 ·obtain⟨j,rfl|rfl⟩:=s.cut_at c e
  ·exact .inr (.inl ⟨j+1,by rw[<- d];exact r.nextC j⟩)
  ·exact .inr (.inr ⟨j,d.symm⟩)
theorem Ringed.oA(r:Ringed N T v X O)(j:Int):O[(lkA T X N v j).toNat]? = some (lk T N v j):=by
 obtain⟨k,b,a⟩:=r.star.numb.was _ (Zam (r.star.two r.hop j).1);rw[(r.was j).1]at a;unfold lkA;rw[b,zC];exact a
theorem Ringed.oB(r:Ringed N T v X O)(j:Int):O[(lkB T X N v j).toNat]? = some (lk T N v j):=by
 obtain⟨k,b,a⟩:=r.star.numb.was _ (Zaj (r.star.two r.hop j).2.1);rw[(r.was j).2]at a;unfold lkB;rw[b,zC];exact a
theorem Ringed.oldO(r:Ringed N T v X O){x:Nat}{y:Int}(h:aftV T (x:Int)=some y):O[x]? = some (x:Int)/\(x:Int)∉Zab T N v:=by
 refine⟨r.star.numb.old x (r.star.surf.aftV_rng h).1.2,fun h9=>?_⟩;rw[r.no_aft h9]at h;cases h
theorem Ringed.ab(r:Ringed N T v X O)(i j:Int):(lkA T X N v i).toNat≠(lkB T X N v j).toNat:=fun h=>by
 have a:=r.rngA i;have b:=r.rngB j;exact r.apart i j (Zbu _) (Zel _) (show lkA T X N v i=lkB T X N v j by omega)
def Ziy(l O:List Int)(L:List Nat):Bool:=L.length==l.length&&L.all fun k=>decide (O.getD k 0∈l)
theorem ofRing_iff{l O:List Int}{L:List Nat}:Ziy l O L=true↔L.length=l.length/\∀k∈L,O.getD k 0∈l:=by
 unfold Ziy;rw[Bool.and_eq_true,beq_iff_eq,List.all_eq_true];simp only[decide_eq_true_eq]
theorem Ringed.which(r:Ringed N T v X O):∃i j,∃(hi:i<(lps X (O.length:Nat) O.length).length) (m:j<(lps X (O.length:Nat) O.length).length),i≠j/\(∃x∈loA T X N v,x∈(lps X (O.length:Nat) O.length)[i])/\(∃x∈loB T X N v,x∈(lps X (O.length:Nat) O.length)[j]) /\
  ∀k (hk:k<(lps X (O.length:Nat) O.length).length),Ziy (Zab T N v) O (lps X (O.length:Nat) O.length)[k]=true↔k=i\/k=j:=by
 have s:=r.star;have q:∀x:Nat,x∈(lps X (O.length:Nat) O.length).flatten↔∃b,aftV X (x:Int)=some b:=fun x=>s.cut.lps_all x
 have f:∀L:List Nat,Round X L->∃i,∃hi:i<(lps X (O.length:Nat) O.length).length,∃x∈L,x∈(lps X (O.length:Nat) O.length)[i]:=fun L n=>by
  obtain⟨M,R,S⟩:=List.mem_flatten.1 ((q _).2 ⟨_,n.2.2 0 n.1⟩);obtain⟨i,hi,rfl⟩:=zE R;exact⟨i,hi,_,zM _,S⟩
 have c:∀i (hi:i<(lps X (O.length:Nat) O.length).length),Round X (lps X (O.length:Nat) O.length)[i]:=fun i hi=>s.cut.lps_round (zM hi)
 obtain⟨i,hi,x,g,l⟩:=f _ r.roundA;obtain⟨j,m,y,d,e⟩:=f _ r.roundB;have P:=(c i hi).into r.roundA l g;have u:=r.roundA.into (c i hi) g l;have Q:=(c j m).into r.roundB e d;have E:=r.roundB.into (c j m) d e;have G:=(c i hi).same_len r.roundA l g;have H:=(c j m).same_len r.roundB e d;have w:=fun {a b:Nat} (ha:a<_) (A:b<_) (hne:a≠b)=>s.cut.lps_apart (k:=O.length) ha A hne
 have F:i≠j:=fun h=>by
  subst h;obtain⟨a,rfl⟩:=rl_inA (u y e);obtain⟨b,A⟩:=rl_inB d;exact r.ab a b A.symm
 refine⟨i,j,hi,m,F,⟨x,g,l⟩,⟨y,d,e⟩,fun k hk=>?_⟩;rw[ofRing_iff];constructor
 ·rintro⟨U,I⟩;have n:=c k hk;have B:(lps X (O.length:Nat) O.length)[k][0]'n.1∈(lps X (O.length:Nat) O.length)[k]:=zM _;rcases r.cases (n.2.2 0 n.1)with⟨z,p⟩|⟨t,C⟩|⟨t,C⟩
  ·obtain⟨J,K⟩:=r.oldO p;have D:=I _ B;rw[zD,J]at D;exact absurd D K
  ·left;refine Classical.byContradiction fun hne=>?_
   have o:=P _ (r.memA t);rw[<- C,zC]at o;exact w hk hi hne _ B o
  ·right;refine Classical.byContradiction fun hne=>?_
   have o:=Q _ (r.memB t);rw[<- C,zC]at o;exact w hk m hne _ B o
 ·rintro(rfl|rfl)
  ·refine⟨G.trans (Zvy _ _),fun z p=>?_⟩;obtain⟨t,rfl⟩:=rl_inA (u z p);rw[zD,r.oA t];exact s.lk_mem t
  ·refine⟨H.trans (Zvy _ _),fun z p=>?_⟩;obtain⟨t,rfl⟩:=rl_inB (E z p);rw[zD,r.oB t];exact s.lk_mem t
end
section
variable {N : Int} {T X : List T3} {O : List Int} {v : Int}
theorem Round.next{L:List Nat}(h:Round X L)(j:Int):aftV X (jAt L j)=some (jAt L (j+1)):=by
 obtain⟨i,hi,b,c⟩:=h.at_ j;obtain⟨k,f,d,e⟩:=h.at_ (j+1);have a:k=(i+1)%L.length:=by
  have:(k:Int)=((i+1)%L.length:Nat):=by
   rw[e,Int.natCast_emod,Int.natCast_add,c];exact(Int.emod_add_emod j (L.length:Int) 1).symm
  exact Int.ofNat.inj this
 subst a;rw[b,d];exact h.2.2 i hi
theorem jAt_per{L:List Nat}{i j:Int}(h:i%(L.length:Int)=j%(L.length:Int)):jAt L i=jAt L j:=by unfold jAt;rw[h]
theorem Round.run{L:List Nat}(h:Round X L){g:Int->Int}(hp:∀j,0<=g j)(hper:∀i j:Int,i%(L.length:Int)=j%(L.length:Int)->g i=g j)(ha:∀j,aftV X (g j)=some (g (j+1))){t:Int}(ht:(g t).toNat∈L):∃s,∀i:Int,jAt L i=g (s+i):=by
 obtain⟨k,p,m⟩:=zE ht;have o:=h.1;have e:jAt L (k:Int)=g t:=by
  obtain⟨i,hi,b,l⟩:=h.at_ (k:Int);rw[Int.emod_eq_of_lt (by omega) (by omega)]at l;have d:i=k:=by omega
  subst d;rw[b,m];exact Int.toNat_of_nonneg (hp t)
 have f:∀n:Nat,jAt L ((k:Int)+n)=g (t+n):=by
  intro n
  induction n with
  | zero=>simpa using e
  | succ n ih =>
   have a:=h.next ((k:Int)+n);rw[ih,ha]at a;have a:=zO a;rw[show(k:Int)+(n+1:Nat)=(k:Int)+n+1 by omega,show t+((n+1:Nat):Int)=t+n+1 by omega];exact a.symm
 refine⟨t-k,fun i=>?_⟩;have c:=Int.emod_nonneg (i-k) (by omega:(L.length:Int)≠0);obtain⟨n,c⟩:∃n:Nat,(i-k)%(L.length:Int)=n:=⟨((i-k)%(L.length:Int)).toNat,by omega⟩;have b:jAt L i=jAt L ((k:Int)+n):=jAt_per (by
  rw[<- c,Int.add_emod_emod,show(k:Int)+(i-k)=i by omega])
 rw[b,f n];refine hper _ _ ?_;rw[<- c,Int.add_emod_emod,show t+(i-(k:Int))=t-k+i by omega]
theorem Ringed.told(r:Ringed N T v X O){E:Nat->Int×Int}{g:Nat->Int}(hE:∀i,E i=(lk T N v (g i),lk T N v (g i+1))\/E i=(lk T N v (g i+1),lk T N v (g i)))
  (hinj:∀i j,i<(Zab T N v).length->j<(Zab T N v).length->g i%((Zab T N v).length:Int)=g j%((Zab T N v).length:Int)->i=j)
  (hsur:∀j:Int,∃i,i<(Zab T N v).length/\g i%((Zab T N v).length:Int)=j%((Zab T N v).length:Int)) :
  Told T ((Zbk (Zab T N v)).map nm) ((List.range (Zab T N v).length).map E):=by
 have s:=r.star;have o:=s.surf;have B:=s.three;have b:∀i,nm (E i)=nm (lk T N v (g i),lk T N v (g i+1)):=fun i=>by
  rcases hE i with h|h
  ·rw[h]
  ·rw[h,Ze0]
 refine⟨fun e a=>?_,?_,fun x=>?_⟩
 ·obtain⟨i,_,rfl⟩:=zB.1 a;obtain⟨k,y,d,z,_⟩:=s.two r.hop (g i);have l:=o.facing_eg k;have m:=o.facing_eg y;rw[d]at l;rw[z]at m;rcases hE i with h|h
  ·rw[h];exact⟨⟨_,l⟩,_,m⟩
  ·rw[h];exact⟨⟨_,m⟩,_,l⟩
 ·rw[List.map_map];refine Zca List.nodup_range fun i hi j n a=>?_
  have hi:=zR.1 hi;have n:=zR.1 n;have a:nm (E i)=nm (E j):=a;rw[b,b]at a;rcases nm_eq.1 a with⟨c,_⟩|⟨c,A⟩
  ·exact hinj i j hi n (s.lk_inj c)
  ·have p:=s.lk_inj c;have q:=s.lk_inj A;exfalso;have t:=Int.emod_eq_emod_iff_emod_sub_eq_zero.1 p;have u:=Int.emod_eq_emod_iff_emod_sub_eq_zero.1 q;have k:=Int.dvd_of_emod_eq_zero t;have w:=Int.dvd_of_emod_eq_zero u;have d:=Int.dvd_sub w k;rw[show g i+1-g j-(g i-(g j+1))=2 by omega]at d;have:=Int.le_of_dvd (by omega) d;omega
 ·constructor
  ·intro f;obtain⟨e,a,rfl⟩:=zB.1 f;obtain⟨j,rfl⟩:=s.lk_of a;obtain⟨i,hi,c⟩:=hsur j;rw[List.map_map];refine zB.2 ⟨i,zR.2 hi,?_⟩;show nm (E i)=_;rw[b,Zrx c,Zrx (mod_succ.2 c)]
  ·intro f;rw[List.map_map]at f;obtain⟨i,_,rfl⟩:=zB.1 f;show nm (E i)∈_;rw[b];exact List.mem_map_of_mem (s.lk_step (g i))
end
section
variable {N : Int} {T X : List T3} {O : List Int} {v : Int}
theorem Ringed.two(r:Ringed N T v X O):∃i j,∃(hi:i<(lps X (O.length:Nat) O.length).length) (f:j<(lps X (O.length:Nat) O.length).length),i<j /\
  ((List.range (lps X (O.length:Nat) O.length).length).filter fun k=>Ziy (Zab T N v) O ((lps X (O.length:Nat) O.length).getD k []))=[i,j] /\
  Round X (lps X (O.length:Nat) O.length)[i]/\Round X (lps X (O.length:Nat) O.length)[j] /\
  (((∃x∈loA T X N v,x∈(lps X (O.length:Nat) O.length)[i])/\∃x∈loB T X N v,x∈(lps X (O.length:Nat) O.length)[j])\/((∃x∈loB T X N v,x∈(lps X (O.length:Nat) O.length)[i])/\∃x∈loA T X N v,x∈(lps X (O.length:Nat) O.length)[j])):=by
 obtain⟨i,j,hi,f,p,m,n,o⟩:=r.which;have e:∀i (hi:i<(lps X (O.length:Nat) O.length).length),Round X (lps X (O.length:Nat) O.length)[i]:=fun i hi=>r.star.cut.lps_round (zM hi)
 have g:∀a b,a<b->(∀k,k=i\/k=j↔k=a\/k=b)->((List.range (lps X (O.length:Nat) O.length).length).filter fun k=>Ziy (Zab T N v) O ((lps X (O.length:Nat) O.length).getD k []))=[a,b]:=fun a b hab h=>by
  refine lt_lists (List.pairwise_lt_range.sublist List.filter_sublist) (by simp[hab]) fun k=>?_
  rw[zQ,zR];simp only[List.mem_cons,List.not_mem_nil,or_false];constructor
  ·rintro⟨c,d⟩;rw[zD,zG c,Option.getD_some]at d;exact(h k).1 ((o k c).1 d)
  ·intro c;have d:=(h k).2 c;have l:k<(lps X (O.length:Nat) O.length).length:=by rcases d with rfl|rfl<;>assumption
   refine⟨l,?_⟩;rw[zD,zG l,Option.getD_some];exact(o k l).2 d
 rcases zK i j with c|c
 ·exact⟨i,j,hi,f,c,g i j c fun k=>Iff.rfl,e i hi,e j f,.inl ⟨m,n⟩⟩
 ·have d:j<i:=by omega
  exact⟨j,i,f,hi,d,g j i d fun k=>or_comm,e j f,e i hi,.inr ⟨n,m⟩⟩
end
end Go.Mesh
namespace Go.Proofs.YtpbdcppaiafbgaaGreat
open Go Go.RowKit Go.Words Go.Mesh
theorem agg4_inj{a b c d a' b' c' d':Value}(h:Value.agg #[a,b,c,d]=.agg #[a',b',c',d']):a=a'/\b=b'/\c=c'/\d=d':=by
 injection h with h;have:=congrArg Array.toList h;simpa using this
section
variable {N : Int} {T X P : List T3} {O K : List Int} {v : Int}
end
end Go.Proofs.YtpbdcppaiafbgaaGreat
namespace Go.Mesh
section
variable {M : Int} {S : List T3} {p q : List Nat} {t : Int}
structure Two (M : Int) (S : List T3) (p q : List Nat) : Prop where
 hs:Surf M S
 hp:Round S p
 hq:Round S q
 hl:q.length=p.length
 hd:∀a∈p,a ∉ q
def idxQ(q:List Nat)(x:Nat):Option Nat:=Zau (fun k=>q[k]?==some x) 0 q.length
theorem idxQ_at{q:List Nat}(hn:q.Nodup){k:Nat}(hk:k<q.length):idxQ q q[k]=some k:=by
 refine(zamq _ _ _ _).2 ⟨Nat.zero_le _,by omega,by rw[zG hk,beq_iff_eq],fun d _ hd=>?_⟩;rw[zG (by omega),beq_eq_false_iff_ne];intro e;have:=(List.getElem_inj hn).1 (zO e);omega
theorem idxQ_none{q:List Nat}{x:Nat}(h:x ∉ q):idxQ q x=none:=by
 refine(Zcr _ _ _).2 fun c _ hc=>?_
 rw[beq_eq_false_iff_ne];intro e;exact h (List.mem_of_getElem? e)
def twW(p q:List Nat)(t x:Int):Int:=if 0<=x then(match idxQ q x.toNat with
 | some k=>jAt p (t-(k:Int))
 | none=>x)else x
theorem Zm4(l:List Nat)(i:Int):0<=jAt l i:=Int.natCast_nonneg _
theorem jAt_at{L:List Nat}{i:Nat}(hi:i<L.length):jAt L (i:Int)=(L[i]:Int):=by
 unfold jAt;rw[Int.emod_eq_of_lt (by omega) (by omega),zC,zD,zG hi];rfl
theorem jAt_of{L:List Nat}{x:Nat}(h:x∈L):∃i:Int,jAt L i=(x:Int):=by
 obtain⟨i,hi,rfl⟩:=zE h;exact⟨(i:Int),jAt_at hi⟩
theorem Two.ne(h:Two M S p q)(i j:Int):jAt p i≠jAt q j:=fun e=>by
 obtain⟨a,f,c⟩:=h.hp.mem i;obtain⟨b,g,d⟩:=h.hq.mem j;rw[c,d]at e;exact h.hd a f (by rw[Int.ofNat.inj e];exact g)
theorem Zla{x:Int}(h:∀j,x≠jAt q j):twW p q t x=x:=by
 unfold twW;by_cases a:0<=x
 ·rw[if_pos a,idxQ_none fun hm=>by
   obtain⟨i,hi⟩:=jAt_of hm;exact h i (by rw[hi];omega)]
 ·rw[if_neg a]
theorem Two.Wq(h:Two M S p q)(j:Int):twW p q t (jAt q j)=jAt p (t-j):=by
 obtain⟨k,c,a,b⟩:=h.hq.at_ j;unfold twW;rw[if_pos (Zm4 _ _),a,zC,idxQ_at h.hq.2.1 c];refine jAt_per ?_;rw[b,h.hl,Int.emod_eq_emod_iff_emod_sub_eq_zero,show t-j%(p.length:Int)-(t-j)=j-j%(p.length:Int) by omega];exact Int.emod_eq_zero_of_dvd (Int.dvd_self_sub_emod)
theorem Two.Wp(h:Two M S p q)(i:Int):twW p q t (jAt p i)=jAt p i:=Zla fun j=>h.ne i j
theorem Two.pair(_h:Two M S p q){e:Int×Int}(he:e∈edP (Za4 p q t)):∃i:Int,e=(jAt p i,jAt q (t-i)):=by
 obtain⟨x,b,a⟩:=mem_edP.1 he;obtain⟨i,_,rfl⟩:=zB.1 b;rcases a with rfl|rfl
 ·exact⟨(i:Int)+1,by rw[show t-((i:Int)+1)=t-(i:Int)-1 by omega]⟩
 ·exact⟨(i:Int),rfl⟩
theorem Two.one(h:Two M S p q)(i:Int):labE (edP (Za4 p q t)) (jAt p i)=labE (edP (Za4 p q t)) (jAt q (t-i)):=by
 have f:=h.hp.1;obtain⟨k,a,c,d⟩:=h.hp.at_ i;have e:jAt q (t-i)=jAt q (t-(k:Int)):=jAt_per (by
  rw[h.hl,d,Int.emod_eq_emod_iff_emod_sub_eq_zero,show t-i-(t-i%(p.length:Int)) = -(i-i%(p.length:Int)) by omega];exact Int.emod_eq_zero_of_dvd (Int.dvd_neg.2 Int.dvd_self_sub_emod))
 have b:jAt p i=jAt p (k:Int):=by rw[c,jAt_at a]
 rw[e,b];refine Zhj (jAt p (k:Int),jAt q (t-(k:Int))) (mem_edP.2 ⟨((jAt p ((k:Int)+1),jAt p (k:Int)),(jAt q (t-(k:Int)),jAt q (t-(k:Int)-1))),?_,.inr rfl⟩);unfold Za4;exact zB.2 ⟨k,zR.2 a,rfl⟩
theorem Two.labW(h:Two M S p q)(x:Int):labE (edP (Za4 p q t)) x=labE (edP (Za4 p q t)) (twW p q t x):=by
 by_cases a:∃j,x=jAt q j
 ·obtain⟨j,rfl⟩:=a;rw[h.Wq,h.one,show t-(t-j)=j by omega]
 ·rw[Zla fun j e=>a ⟨j,e⟩]
theorem Two.same(h:Two M S p q)(x y:Int):labE (edP (Za4 p q t)) x=labE (edP (Za4 p q t)) y↔twW p q t x=twW p q t y:=by
 constructor
 ·intro e;have a:∀v,twW p q t (labE (edP (Za4 p q t)) v)=twW p q t v:=Zer (twW p q t) fun e he=>by
   obtain⟨i,rfl⟩:=h.pair he;show twW p q t (jAt p i)=twW p q t (jAt q (t-i));rw[h.Wp,h.Wq,show t-(t-i)=i by omega]
  rw[<- a x,<- a y,e]
 ·intro e;rw[h.labW x,h.labW y,e]
theorem Two.nonneg(h:Two M S p q)(x:Int)(hx:0<=x):0<=labE (edP (Za4 p q t)) x:=Zdx (fun e he=>by
 obtain⟨i,rfl⟩:=h.pair he;exact⟨Zm4 _ _,Zm4 _ _⟩) x hx
theorem Two.Wnn(x:Int)(hx:0<=x):0<=twW p q t x:=by
 unfold twW;rw[if_pos hx]
 split
 ·exact Zm4 _ _
 ·exact hx
theorem Round.rng{L:List Nat}(h:Round S L)(hs:Surf M S){x:Nat}(hx:x∈L):(x:Int)<M:=by
 obtain⟨i,hi,rfl⟩:=zE hx;exact(hs.aftV_rng (h.2.2 i hi)).1.2
theorem Two.rnk(h:Two M S p q):Go.Mesh.rnk (labE (edP (Za4 p q t))) M.toNat+p.length=M.toNat:=by
 have F:=h.hs.n0;have n:=Zes (edP (Za4 p q t));have g:(((List.range M.toNat).filter fun u:Nat=>decide (labE (edP (Za4 p q t)) (u:Int)=u)).map fun u:Nat=>(twW p q t (u:Int)).toNat).Perm ((List.range M.toNat).filter fun u=>decide (u ∉ q)):=by
  refine(List.perm_ext_iff_of_nodup ?_ (List.nodup_range.filter _)).2 fun v=>?_
  ·refine zbiq (List.nodup_range.filter _) fun a d b f e=>?_
   have d:=of_decide_eq_true (zQ.1 d).2;have f:=of_decide_eq_true (zQ.1 f).2;have C:=Two.Wnn (p:=p) (q:=q) (t:=t) (a:Int) (by omega);have G:=Two.Wnn (p:=p) (q:=q) (t:=t) (b:Int) (by omega);have e:(twW p q t (a:Int)).toNat=(twW p q t (b:Int)).toNat:=e;have:=(h.same (t:=t) (a:Int) (b:Int)).2 (by omega);rw[d,f]at this;exact Int.ofNat.inj this
  ·rw[zB,zQ,zR,decide_eq_true_eq];constructor
   ·rintro⟨u,o,rfl⟩;have o:=zR.1 (zQ.1 o).1;by_cases c:∃j,(u:Int)=jAt q j
    ·obtain⟨j,B⟩:=c;rw[B,h.Wq];obtain⟨a,d,e⟩:=h.hp.mem (t-j);rw[e,zC];have:=h.hp.rng h.hs d;exact⟨by omega,h.hd a d⟩
    ·rw[Zla fun j e=>c ⟨j,e⟩,zC];exact⟨o,fun hm=>by
      obtain⟨i,hi⟩:=jAt_of hm;exact c ⟨i,hi.symm⟩⟩
   ·rintro⟨r,m⟩;have A:twW p q t (v:Int)=v:=Zla fun j e=>by
     obtain⟨b,f,w⟩:=h.hq.mem j;rw[w]at e;exact m (by rw[Int.ofNat.inj e];exact f)
    have s:=h.nonneg (t:=t) (v:Int) (by omega);have C:=n.le (v:Int);refine⟨(labE (edP (Za4 p q t)) (v:Int)).toNat,zQ.2 ⟨zR.2 (by omega),zY (by rw[Int.toNat_of_nonneg s];exact n.idem _)⟩,?_⟩;show(twW p q t (((labE (edP (Za4 p q t)) (v:Int)).toNat:Nat):Int)).toNat=v;rw[Int.toNat_of_nonneg s,(h.same (t:=t) _ _).1 (n.idem (v:Int)),A,zC]
 have r:=g.length_eq;rw[zL,<- List.countP_eq_length_filter]at r;have m:((List.range M.toNat).filter fun u=>decide (u∈q)).Perm q:=by
  refine(List.perm_ext_iff_of_nodup (List.nodup_range.filter _) h.hq.2.1).2 fun v=>?_
  rw[zQ,zR,decide_eq_true_eq];exact⟨fun k=>k.2,fun k=>⟨by have:=h.hq.rng h.hs k;omega,k⟩⟩
 have D:=m.length_eq;have y:∀l:List Nat,(l.filter fun u=>decide (u ∉ q)).length+(l.filter fun u=>decide (u∈q)).length=l.length:=fun l=>by
  induction l with
  | nil=>rfl
  | cons x l ih =>
   rw[List.filter_cons,List.filter_cons];by_cases c:x∈q
   ·rw[if_neg (by simp[c]),if_pos (by simp[c]),List.length_cons,List.length_cons];omega
   ·rw[if_pos (by simp[c]),if_neg (by simp[c]),List.length_cons,List.length_cons];omega
 have z:=y (List.range M.toNat);rw[List.length_range]at z;have E:=h.hl;unfold Go.Mesh.rnk;omega
variable {Y : List T3} {m : Nat}
theorem Two.vt(h:Two M S p q)(hY:Y=sewT (labE (edP (Za4 p q t))) S){c d:Nat}(hc:c<3*S.length)(hd:d<3*S.length):vt Y c=vt Y d↔twW p q t (Go.Mesh.vt S c)=twW p q t (Go.Mesh.vt S d):=by
 subst hY;rw[Zha _ _ hc,Zha _ _ hd,numL_eq (Zes _) (fun v hv=>h.nonneg v hv) (h.hs.rng c hc).1 (h.hs.rng d hd).1];exact h.same _ _
theorem Zdb(L:Int->Int)(S:List T3):(sewT L S).length=S.length:=by unfold sewT;rw[zL]
theorem Two.keep(h:Two M S p q)(hY:Y=sewT (labE (edP (Za4 p q t))) S)(hs:Surf (m:Int) Y){c d:Nat}(ho:opp S c=some d):opp Y c=some d:=by
 have b:=h.hs.opp_lt ho;obtain⟨a,e,f⟩:=h.hs.opp_iff.1 ho;have g:Y.length=S.length:=by rw[hY];exact Zdb _ _
 refine hs.opp_iff.2 ⟨by omega,(h.vt hY (Zam a) (Zaj b)).2 (by rw[e]),(h.vt hY (Zaj a) (Zam b)).2 (by rw[f])⟩
theorem Surf.bord_at(hs:Surf M S){c d:Nat}(hc:c<3*S.length)(hd:d<3*S.length)(oc:opp S c=none)(od:opp S d=none)(he:Go.Mesh.vt S (pv c)=Go.Mesh.vt S (pv d)):c=d:=by
 have a:=hs.aftV_iff.2 ⟨c,hc,oc,rfl,rfl⟩;have b:=hs.aftV_iff.2 ⟨d,hd,od,rfl,rfl⟩;rw[he,b]at a;exact hs.edge_in hc hd oc od (zO a).symm
theorem Two.onP(h:Two M S p q)(hY:Y=sewT (labE (edP (Za4 p q t))) S)(hs:Surf (m:Int) Y){c:Nat}(hc:c<3*S.length)(ho:opp S c=none){i:Int}(hi:Go.Mesh.vt S (pv c)=jAt p i) :
  ∃d,d<3*S.length/\opp S d=none/\Go.Mesh.vt S (pv d)=jAt q (t-i-1)/\opp Y c=some d:=by
 have a:=h.hs.aftV_iff.2 ⟨c,hc,ho,hi,rfl⟩;rw[h.hp.next i]at a;have a:=zO a;obtain⟨d,b,g,e,f⟩:=h.hs.aftV_iff.1 (h.hq.next (t-i-1));have j:Y.length=S.length:=by rw[hY];exact Zdb _ _
 refine⟨d,b,g,e,hs.opp_iff.2 ⟨by omega,(h.vt hY (Zam b) (Zaj hc)).2 ?_,(h.vt hY (Zaj b) (Zam hc)).2 ?_⟩⟩
 ·rw[f,hi,h.Wq,h.Wp,show t-(t-i-1+1)=i by omega]
 ·rw[e,<- a,h.Wq,h.Wp,show t-(t-i-1)=i+1 by omega]
theorem Two.onQ(h:Two M S p q)(hY:Y=sewT (labE (edP (Za4 p q t))) S)(hs:Surf (m:Int) Y){d:Nat}(hd:d<3*S.length)(ho:opp S d=none){j:Int}(hj:Go.Mesh.vt S (pv d)=jAt q j) :
  ∃c,c<3*S.length/\opp S c=none/\Go.Mesh.vt S (pv c)=jAt p (t-j-1)/\opp Y d=some c:=by
 obtain⟨c,e,g,a,_⟩:=h.hs.aftV_iff.1 (h.hp.next (t-j-1));obtain⟨l,f,i,b,k⟩:=h.onP hY hs e g a;rw[show t-(t-j-1)-1=j by omega]at b;obtain rfl:=h.hs.bord_at f hd i ho (b.trans hj.symm);have n:Y.length=S.length:=by rw[hY];exact Zdb _ _
 exact⟨c,e,g,a,hs.opp_symm (by omega) k⟩
theorem Two.off(h:Two M S p q)(hY:Y=sewT (labE (edP (Za4 p q t))) S)(hs:Surf (m:Int) Y){c:Nat}(hc:c<3*S.length)(ho:opp S c=none)(h1:∀i,Go.Mesh.vt S (pv c)≠jAt p i)(h2:∀j,Go.Mesh.vt S (pv c)≠jAt q j):opp Y c=none:=by
 have A:Y.length=S.length:=by rw[hY];exact Zdb _ _
 have l:∀ {c:Nat},c<3*S.length->opp S c=none->(∀j,Go.Mesh.vt S (pv c)≠jAt q j)->∀j,Go.Mesh.vt S (nx c)≠jAt q j:=fun {c} hc ho h2 j e=>by
  have a:=h.hs.aftV_iff.2 ⟨c,hc,ho,rfl,e⟩;have g:=h.hq.next (j-1);rw[show j-1+1=j by omega]at g;exact h2 _ (h.hs.aftV_inj a g)
 cases o:opp Y c with
 | none=>rfl
 | some d =>
  exfalso;obtain⟨z,v,w⟩:=hs.opp_iff.1 o;have k:d<3*S.length:=by omega
  have f:=hs.opp_symm (by omega) o;cases b:opp S d with
  | some e =>
   have a:=h.keep hY hs b;rw[f]at a;rw[<- zO a]at b;have:=h.hs.opp_symm k b;rw[ho]at this;cases this
  | none =>
   by_cases y:∃i,Go.Mesh.vt S (pv d)=jAt p i
   ·obtain⟨i,hi⟩:=y;obtain⟨u,_,_,a,g⟩:=h.onP hY hs k b hi;rw[f]at g;rw[<- zO g]at a;exact h2 _ a
   by_cases n:∃j,Go.Mesh.vt S (pv d)=jAt q j
   ·obtain⟨j,x⟩:=n;obtain⟨u,_,_,a,g⟩:=h.onQ hY hs k b x;rw[f]at g;rw[<- zO g]at a;exact h1 _ a
   have r:=(h.vt hY (Zam k) (Zaj hc)).1 v;have s:=(h.vt hY (Zaj k) (Zam hc)).1 w;rw[Zla h2,Zla (l k b fun j e=>n ⟨j,e⟩)]at r;rw[Zla fun j e=>n ⟨j,e⟩,Zla (l hc ho h2)]at s;rw[h.hs.opp_iff.2 ⟨k,r,s⟩]at ho;cases ho
theorem Two.bord(h:Two M S p q)(hY:Y=sewT (labE (edP (Za4 p q t))) S)(hs:Surf (m:Int) Y){c:Nat}(hc:c<3*S.length):opp Y c=none↔opp S c=none/\(∀i,Go.Mesh.vt S (pv c)≠jAt p i)/\∀j,Go.Mesh.vt S (pv c)≠jAt q j:=by
 constructor
 ·intro b;cases a:opp S c with
  | some d=>rw[h.keep hY hs a]at b;cases b
  | none =>
   refine⟨rfl,fun i e=>?_,fun j e=>?_⟩
   ·obtain⟨d,_,_,_,k⟩:=h.onP hY hs hc a e;rw[b]at k;cases k
   ·obtain⟨d,_,_,_,k⟩:=h.onQ hY hs hc a e;rw[b]at k;cases k
 ·rintro⟨f,g,l⟩;exact h.off hY hs hc f g l
theorem Surf.bord_on(hs:Surf M S){L:List Nat}(hL:Round S L):((List.range (3*S.length)).filter fun c=>decide (opp S c=none/\(Go.Mesh.vt S (pv c)).toNat∈L)).length=L.length:=by
 have n:(((List.range (3*S.length)).filter fun c=>decide (opp S c=none/\(Go.Mesh.vt S (pv c)).toNat∈L)).map fun c=>(Go.Mesh.vt S (pv c)).toNat).Perm L:=by
  refine(List.perm_ext_iff_of_nodup ?_ hL.2.1).2 fun v=>?_
  ·refine zbiq (List.nodup_range.filter _) fun a ha b hb e=>?_
   obtain⟨d,j⟩:=zQ.1 ha;obtain⟨f,k⟩:=zQ.1 hb;have d:=zR.1 d;have f:=zR.1 f;have o:=hs.rng _ (Zaj d);have p:=hs.rng _ (Zaj f);have e:(Go.Mesh.vt S (pv a)).toNat=(Go.Mesh.vt S (pv b)).toNat:=e;exact hs.bord_at d f (of_decide_eq_true j).1 (of_decide_eq_true k).1 (by omega)
  ·rw[zB];constructor
   ·rintro⟨c,g,rfl⟩;exact(of_decide_eq_true (zQ.1 g).2).2
   ·intro h;obtain⟨i,hi,rfl⟩:=zE h;obtain⟨c,g,m,l,_⟩:=hs.aftV_iff.1 (hL.2.2 i hi);have e:(Go.Mesh.vt S (pv c)).toNat=L[i]:=by rw[l,zC]
    exact⟨c,zQ.2 ⟨zR.2 g,zY ⟨m,by rw[e];exact h⟩⟩,e⟩
 have:=n.length_eq
 rwa [zL]at this
theorem Two.bordC(h:Two M S p q)(hY:Y=sewT (labE (edP (Za4 p q t))) S)(hs:Surf (m:Int) Y):Go.Mesh.bordC Y+2*p.length=Go.Mesh.bordC S:=by
 have j:Y.length=S.length:=by rw[hY];exact Zdb _ _
 have w:=h.hs.bord_on h.hp;have y:=h.hs.bord_on h.hq;rw[<- List.countP_eq_length_filter]at w y;have B:=h.hl;have n:∀ {L:List Nat} {c:Nat},c<3*S.length->Round S L->((∀i,Go.Mesh.vt S (pv c)≠jAt L i)↔(Go.Mesh.vt S (pv c)).toNat ∉ L):=fun {L c} d hL=>by
  have D:=h.hs.rng _ (Zaj d);constructor
  ·intro k A;obtain⟨i,hi⟩:=jAt_of A;exact k i (by rw[hi];omega)
  ·intro k i e;obtain⟨a,z,v⟩:=hL.mem i;rw[v]at e;exact k (by rw[e,zC];exact z)
 have u:∀l:List Nat,(∀c∈l,c<3*S.length)->(l.countP fun c=>decide (opp Y c=none))+((l.countP fun c=>decide (opp S c=none/\(Go.Mesh.vt S (pv c)).toNat∈p))+l.countP fun c=>decide (opp S c=none/\(Go.Mesh.vt S (pv c)).toNat∈q))=l.countP fun c=>decide (opp S c=none):=fun l=>by
  induction l with
  | nil=>intro _;rfl
  | cons c l o =>
   intro j;have o:=o fun x hx=>j x (List.mem_cons_of_mem _ hx)
   have d:=j c (List.mem_cons_self ..);have r:=h.bord hY hs d;rw[n d h.hp,n d h.hq]at r;have s:¬((Go.Mesh.vt S (pv c)).toNat∈p/\(Go.Mesh.vt S (pv c)).toNat∈q):=fun k=>h.hd _ k.1 k.2
   rw[List.countP_cons,List.countP_cons,List.countP_cons,List.countP_cons,<- o];have e:(if decide (opp Y c=none)=true then 1 else 0)+((if decide (opp S c=none/\(Go.Mesh.vt S (pv c)).toNat∈p)=true then 1 else 0)+if decide (opp S c=none/\(Go.Mesh.vt S (pv c)).toNat∈q)=true then 1 else 0)=if decide (opp S c=none)=true then 1 else 0:=by
    simp only[decide_eq_true_eq,r];by_cases b:opp S c=none
    ·by_cases f:(Go.Mesh.vt S (pv c)).toNat∈p
     ·have g:(Go.Mesh.vt S (pv c)).toNat ∉ q:=fun k=>s ⟨f,k⟩
      rw[if_neg (fun k=>k.2.1 f),if_pos ⟨b,f⟩,if_neg (fun k=>g k.2),if_pos b]
     ·by_cases g:(Go.Mesh.vt S (pv c)).toNat∈q
      ·rw[if_neg (fun k=>k.2.2 g),if_neg (fun k=>f k.2),if_pos ⟨b,g⟩,if_pos b]
      ·rw[if_pos ⟨b,f,g⟩,if_neg (fun k=>f k.2),if_neg (fun k=>g k.2),if_pos b]
    ·rw[if_neg (fun k=>b k.1),if_neg (fun k=>b k.1),if_neg (fun k=>b k.1),if_neg b]
   omega
 have C:=u (List.range (3*S.length)) fun c d=>zR.1 d
 unfold Go.Mesh.bordC;rw[j];omega
def twF(p q:List Nat)(t:Int)(v:Nat):Nat:=(numL (labE (edP (Za4 p q t))) (v:Int)).toNat
theorem Zwj(v:Nat):(twF p q t v:Int)=numL (labE (edP (Za4 p q t))) (v:Int):=by
 unfold twF numL;omega
theorem Two.inj(h:Two M S p q){a b:Nat}(ha:a ∉ q)(d:b ∉ q)(e:twF p q t a=twF p q t b):a=b:=by
 have g:∀ {v:Nat},v ∉ q->twW p q t (v:Int)=v:=fun {v} hv=>Zla fun j e=>by
  obtain⟨b,d,c⟩:=h.hq.mem j;rw[c]at e;exact hv (by rw[Int.ofNat.inj e];exact d)
 have i:numL (labE (edP (Za4 p q t))) (a:Int)=numL (labE (edP (Za4 p q t))) (b:Int):=by rw[<- Zwj,<- Zwj,e]
 have c:=(numL_eq (Zes _) (fun v hv=>h.nonneg v hv) (by omega) (by omega)).1 i;have f:=(h.same (t:=t) _ _).1 c;rw[g ha,g d]at f;exact Int.ofNat.inj f
theorem Two.round(h:Two M S p q)(hY:Y=sewT (labE (edP (Za4 p q t))) S)(hs:Surf (m:Int) Y){L:List Nat}(hL:Round S L)(ho:∀a∈L,a ∉ p/\a ∉ q):Round Y (L.map (twF p q t)):=by
 have v:Y.length=S.length:=by rw[hY];exact Zdb _ _
 refine⟨by rw[zL];exact hL.1,?_,fun i hi=>?_⟩
 ·exact zbiq hL.2.1 fun a j b hb e=>h.inj (ho a j).2 (ho b hb).2 e
 ·have f:i<L.length:=by rw[zL]at hi;exact hi
  obtain⟨c,l,u,n,r⟩:=h.hs.aftV_iff.1 (hL.2.2 i f);have d:∀ {K:List Nat},Round S K->L[i]∉K->∀k,Go.Mesh.vt S (pv c)≠jAt K k:=fun {K} hK hn k e=>by
   obtain⟨a,j,s⟩:=hK.mem k;rw[n,s]at e;exact hn (by rw[Int.ofNat.inj e];exact j)
  have g:=ho _ (zM f);have o:=h.off hY hs l u (d h.hp g.1) (d h.hq g.2);simp only[List.getElem_map,zL];refine hs.aftV_iff.2 ⟨c,by omega,o,?_,?_⟩
  ·rw[hY,Zha _ _ (Zaj l),n,Zwj]
  ·rw[hY,Zha _ _ (Zam l),r,Zwj]
theorem Two.loops(h:Two M S p q)(hY:Y=sewT (labE (edP (Za4 p q t))) S)(hs:Surf (m:Int) Y){i j:Nat}(hi:(lps S M M.toNat)[i]? = some p)(hj:(lps S M M.toNat)[j]? = some q)(hij:i≠j):(lps Y (m:Int) m).length+2=(lps S M M.toNat).length:=by
 have hl:Y.length=S.length:=by rw[hY];exact Zdb _ _
 obtain⟨C,D⟩:=zS.1 hi;obtain⟨E,F⟩:=zS.1 hj;have W:∀k (d:k<(lps S M M.toNat).length),Round S (lps S M M.toNat)[k]:=fun k d=>h.hs.lps_round (zM d)
 have o:∀k (d:k<(lps S M M.toNat).length),k≠i->k≠j->∀a∈(lps S M M.toNat)[k],a ∉ p/\a ∉ q:=fun k d G v a ha=>by
  have l:=h.hs.lps_apart d C G a ha;have n:=h.hs.lps_apart d E v a ha;rw[D]at l;rw[F]at n;exact⟨l,n⟩
 have g:∀k (d:k<(lps S M M.toNat).length),(lps S M M.toNat).getD k []=(lps S M M.toNat)[k]:=fun k d=>by rw[zD,zG d];rfl
 have f:∀k,k∈((List.range (lps S M M.toNat).length).filter fun k=>decide (k≠i/\k≠j))↔k<(lps S M M.toNat).length/\k≠i/\k≠j:=fun k=>by rw[zQ,zR,decide_eq_true_eq]
 have I:∀L∈lps Y (m:Int) m,Round Y L:=fun L hL=>hs.lps_round hL
 have J:∀L∈((List.range (lps S M M.toNat).length).filter fun k=>decide (k≠i/\k≠j)).map fun k=>((lps S M M.toNat).getD k []).map (twF p q t),Round Y L:=fun L hL=>by
  obtain⟨k,d,rfl⟩:=zB.1 hL;obtain⟨l,n,w⟩:=(f k).1 d;show Round Y (((lps S M M.toNat).getD k []).map (twF p q t));rw[g k l];exact h.round hY hs (W k l) (o k l n w)
 have y:∀x:Nat,x∈(lps Y (m:Int) m).flatten↔∃b,aftV Y (x:Int)=some b:=fun x=>by
  have:=hs.lps_all x
  rwa [zC]at this
 have G:(lps Y (m:Int) m).length<=(((List.range (lps S M M.toNat).length).filter fun k=>decide (k≠i/\k≠j)).map fun k=>((lps S M M.toNat).getD k []).map (twF p q t)).length:=by
  refine fam_le I J (hs.lps_pair _) fun L hL=>?_
  have r:=I L hL;have v:=r.2.2 0 r.1;have a4:L[0]'r.1∈L:=zM _;obtain⟨c,hc,X,Z,_⟩:=hs.aftV_iff.1 v;have u:c<3*S.length:=by omega
  obtain⟨l,n,w⟩:=(h.bord hY hs u).1 X;have ae:=r.1;have a5:=h.hs.rng _ (Zaj u);obtain⟨L',V,s⟩:=List.mem_flatten.1 ((h.hs.lps_all (Go.Mesh.vt S (pv c)).toNat).2 ⟨_,h.hs.aftV_iff.2 ⟨c,u,l,by omega,rfl⟩⟩);obtain⟨k,d,rfl⟩:=zE V;have a0:k≠i:=fun e=>by
   subst e;rw[D]at s;obtain⟨z,N⟩:=jAt_of s;exact n z (by rw[N];omega)
  have a3:k≠j:=fun e=>by
   subst e;rw[F]at s;obtain⟨z,N⟩:=jAt_of s;exact w z (by rw[N];omega)
  refine⟨_,zB.2 ⟨k,(f k).2 ⟨d,a0,a3⟩,rfl⟩,_,a4,?_⟩;show L[0]∈((lps S M M.toNat).getD k []).map (twF p q t);rw[g k d];refine zB.2 ⟨_,s,?_⟩;have e:(twF p q t (Go.Mesh.vt S (pv c)).toNat:Int)=(L[0]:Int):=by
   rw[Zwj,<- Z,hY,Zha _ _ (Zaj u),Int.toNat_of_nonneg a5.1]
  exact Int.ofNat.inj e
 have v:(((List.range (lps S M M.toNat).length).filter fun k=>decide (k≠i/\k≠j)).map fun k=>((lps S M M.toNat).getD k []).map (twF p q t)).length<=(lps Y (m:Int) m).length:=by
  refine fam_le J I ?_ fun L hL=>?_
  ·rw[List.pairwise_map];refine(List.pairwise_lt_range.sublist List.filter_sublist).imp_of_mem fun {k k'} d hk' hlt a ha b hb e=>?_
   obtain⟨O,u2,u3⟩:=(f k).1 d;obtain⟨P,v2,v3⟩:=(f k').1 hk';rw[g k O]at ha;rw[g k' P]at hb;obtain⟨Q,A,rfl⟩:=zB.1 ha;obtain⟨b',B,rfl⟩:=zB.1 hb;have:=h.inj (o k O u2 u3 Q A).2 (o k' P v2 v3 b' B).2 e;subst this;exact h.hs.lps_apart O P (by omega) Q A B
  ·have r:=J L hL;obtain⟨K,hK,s⟩:=List.mem_flatten.1 ((y _).2 ⟨_,r.2.2 0 r.1⟩);exact⟨K,hK,_,zM _,s⟩
 have h3:([i,j]++((List.range (lps S M M.toNat).length).filter fun k=>decide (k≠i/\k≠j))).Perm (List.range (lps S M M.toNat).length):=by
  refine(List.perm_ext_iff_of_nodup ?_ List.nodup_range).2 fun k=>?_
  ·refine List.nodup_append.2 ⟨by simp[hij],List.nodup_range.filter _,fun a ha b hb e=>?_⟩;subst e;obtain⟨_,n,w⟩:=(f a).1 hb;simp only[List.mem_cons,List.not_mem_nil,or_false]at ha;rcases ha with rfl|rfl
   ·exact n rfl
   ·exact w rfl
  ·rw[zP,f,zR];simp only[List.mem_cons,List.not_mem_nil,or_false];constructor
   ·rintro((rfl|rfl)|H)
    ·exact C
    ·exact E
    ·exact H.1
   ·intro H;by_cases R:k=i
    ·exact .inl (.inl R)
    ·by_cases T:k=j
     ·exact .inl (.inr T)
     ·exact .inr ⟨H,R,T⟩
 have U:=h3.length_eq;rw[zA,List.length_range]at U;rw[zL]at G v;simp only[List.length_cons,List.length_nil]at U;omega
theorem Two.con(h:Two M S p q)(hY:Y=sewT (labE (edP (Za4 p q t))) S)(hs:Surf (m:Int) Y){a b:Nat}(hc:Con S a b):Con Y a b:=by
 refine Con.closed h.hs (fun x=>Con Y a x) (fun x y hx hb=>?_) hc (Con.refl a);obtain⟨k,f,c⟩:=besd_iff.1 hb;unfold nb at c;obtain⟨d,e,rfl⟩:=Option.map_eq_some_iff.1 c;have:=Zh1 hs (h.keep hY hs e);rw[show(3*x+k)/3=x by omega]at this;exact hx.step hs this
theorem Two.bridge(h:Two M S p q)(hY:Y=sewT (labE (edP (Za4 p q t))) S)(hs:Surf (m:Int) Y):∃c d,c<3*S.length/\d<3*S.length/\(Go.Mesh.vt S (pv c)).toNat∈p/\(Go.Mesh.vt S (pv d)).toNat∈q/\Con Y (c/3) (d/3):=by
 obtain⟨c,f,r,e,_⟩:=h.hs.aftV_iff.1 (h.hp.next 0);obtain⟨d,o,s,g,k⟩:=h.onP hY hs f r e;obtain⟨a,l,i⟩:=h.hp.mem 0;obtain⟨b,n,j⟩:=h.hq.mem (t-0-1);refine⟨c,d,f,o,by rw[e,i,zC];exact l,by rw[g,j,zC];exact n,?_⟩;exact(Con.refl _).step hs (Zh1 hs k)
