/- Plain: the two border loops that a star's cut makes; no program in sight. -/
import Derived.Test.YtpbdcppaiafbgaaGreatOP
import Derived.Test.YtpbdcppaiafbgaaGreatOA
namespace Go.Mesh
section
variable {N : Int} {T X : List T3} {O : List Int} {v : Int}
theorem Surf.con_at (hs:Surf N T) {c d:Nat} (hc:c<3 * T.length) (hd:d<3 * T.length) (h:vt T c=vt T d):Con T (c / 3) (d / 3):=by
 have e:=hs.rng c hc;refine hs.closed_all e.1 e.2 (fun x=>Con T (c / 3) (x / 3)) hc rfl (Con.refl _) (fun x y hx hxv h ha=>?_) (fun x y hx hxv h hb=>?_) d hd h.symm
 ·unfold aft at ha;obtain ⟨o,a,rfl⟩:=Option.map_eq_some_iff.1 ha;have:=besd_of hs a;rw [nx_div] at this;rw [nx_div];exact h.step hs this
 ·have b:=hs.bef_aft hx hb;unfold aft at b;obtain ⟨o,a,f⟩:=Option.map_eq_some_iff.1 b;have:=hs.besd_symm (besd_of hs a);rw [nx_div] at this;rw [<- f,nx_div] at h;exact h.step hs this
theorem Round.into {L M:List Nat} (hL:Round T L) (hM:Round T M) {x:Nat} (h1:x∈L) (h2:x∈M):∀ y∈M,y∈L:=by
 obtain ⟨k,w,rfl⟩:=List.getElem_of_mem h2;have n:∀ t:Nat,∃ z:Nat,jAt M ((k:Int)+t)=(z:Int)/\z∈L:=by
  intro t
  induction t with
  | zero =>
   obtain ⟨i,hi,a,p⟩:=hM.at_ ((k:Int)+(0:Nat));have h:i=k:=by
    rw [Int.emod_eq_of_lt (by omega) (by omega)] at p;omega
   subst h;exact ⟨_,a,h1⟩
  | succ t ih =>
   obtain ⟨z,a,f⟩:=ih;obtain ⟨i,hi,d,e⟩:=hM.at_ ((k:Int)+t);obtain ⟨m,v,q,r⟩:=hM.at_ ((k:Int)+(t+1:Nat));have g:m=(i+1) % M.length:=by
    have:(m:Int)=((i+1) % M.length:Nat):=by
     rw [r,show (k:Int)+(t+1:Nat)=((k:Int)+t)+1 by omega,Int.natCast_emod,Int.natCast_add,e];exact (Int.emod_add_emod _ (M.length:Int) 1).symm
    exact Int.ofNat.inj this
   subst g;have c:=hM.2.2 i hi;rw [<- d,a] at c;obtain ⟨j,l,rfl⟩:=List.getElem_of_mem f;have o:=hL.2.2 j l;rw [o] at c;refine ⟨_,q,?_⟩;rw [<- Int.ofNat.inj (Option.some.inj c)];exact List.getElem_mem _
 intro y u;obtain ⟨j,l,rfl⟩:=List.getElem_of_mem u;have A:(0:Int)<(M.length:Int):=by omega
 obtain ⟨t,s⟩:∃ t:Nat,((j:Int) - k) % (M.length:Int)=t:=⟨(((j:Int) - k) % (M.length:Int)).toNat,by have:=Int.emod_nonneg ((j:Int) - k) (by omega:(M.length:Int)≠0);omega⟩;obtain ⟨z,a,f⟩:=n t;obtain ⟨i,hi,d,e⟩:=hM.at_ ((k:Int)+t);have b:(i:Int)=j:=by
  rw [e,<- s,Int.add_emod_emod,show (k:Int)+((j:Int) - k)=j by omega,Int.emod_eq_of_lt (by omega) (by omega)]
 have b:i=j:=by omega
 subst b;rw [d] at a;rw [Int.ofNat.inj a];exact f
theorem fam_le {A B:List (List Nat)} (hA:∀ L∈A,Round T L) (hB:∀ L∈B,Round T L) (hd:A.Pairwise fun L M=>∀ a∈L,∀ b∈M,a≠b) (hc:∀ L∈A,∃ M∈B,∃ x∈L,x∈M):A.length<=B.length:=by
 have d:∀ L:List Nat,∃ M,L∈A->M∈B/\∃ x∈L,x∈M:=fun L=>by
  by_cases h:L∈A
  ·obtain ⟨M,c,g⟩:=hc L h;exact ⟨M,fun _=>⟨c,g⟩⟩
  ·exact ⟨[],fun h9=>absurd h9 h⟩
 obtain ⟨f,i⟩:∃ f:List Nat->List Nat,∀ L,L∈A->f L∈B/\∃ x∈L,x∈f L:=⟨fun L=>Classical.choose (d L),fun L=>Classical.choose_spec (d L)⟩;have o:(A.map f).Nodup:=by
  unfold List.Nodup;rw [List.pairwise_map];refine hd.imp_of_mem fun {L M} c g h3 h4=>?_
  obtain ⟨p,x,j,k⟩:=i L c;obtain ⟨_,y,l,e⟩:=i M g;rw [<- h4] at e;exact h3 y ((hA L c).into (hB _ p) j k y e) y l rfl
 have:=nodup_len o (m:=B) fun M hM=>by
  obtain ⟨L,n,rfl⟩:=List.mem_map.1 hM;exact (i L n).1
 rwa [List.length_map] at this
theorem Surf.lps_pair (hs:Surf N T) (k:Nat):(lps T N k).Pairwise fun L M=>∀ a∈L,∀ b∈M,a≠b:=(List.pairwise_flatten.1 (hs.lps_nodup k)).2
def rl (g:Int->Int) (m:Nat):List Nat:=(List.range m).map fun i:Nat=>(g (i:Int)).toNat
theorem rl_len (g:Int->Int) (m:Nat):(rl g m).length=m:=by unfold rl;simp
theorem rl_get {g:Int->Int} {m i:Nat} (hi:i<(rl g m).length):(rl g m)[i]=(g (i:Int)).toNat:=by
 have h:(rl g m)[i]? = some (g (i:Int)).toNat:=by
  have a:=hi;rw [rl_len] at a;unfold rl;rw [List.getElem?_map,List.getElem?_range a];rfl
 exact (List.getElem?_eq_some_iff.1 h).2
theorem rl_mem {g:Int->Int} {m:Nat} (h0:0<m) (hper:∀ i j:Int,i % (m:Int)=j % (m:Int)->g i=g j) (j:Int):(g j).toNat∈rl g m:=by
 unfold rl;have a:=Int.emod_nonneg j (by omega:(m:Int)≠0);have b:=Int.emod_lt_of_pos j (by omega:(0:Int)<m);refine List.mem_map.2 ⟨(j % (m:Int)).toNat,List.mem_range.2 (by omega),?_⟩;rw [Int.toNat_of_nonneg a,hper (j % (m:Int)) j (Int.emod_emod_of_dvd j (Int.dvd_refl _))]
theorem rl_in {g:Int->Int} {m x:Nat} (h:x∈rl g m):∃ j:Int,(g j).toNat=x:=by
 obtain ⟨i,_,a⟩:=List.mem_map.1 h;exact ⟨_,a⟩
theorem round_of {g:Int->Int} {m:Nat} (h0:0<m) (hp:∀ j,0<=g j) (hper:∀ i j:Int,i % (m:Int)=j % (m:Int)->g i=g j) (hinj:∀ i j,g i=g j->i % (m:Int)=j % (m:Int)) (ha:∀ j,aftV T (g j)=some (g (j+1))):Round T (rl g m):=by
 refine ⟨by rw [rl_len];exact h0,?_,fun i hi=>?_⟩
 ·refine nodup_map_inj List.nodup_range fun i hi j b a=>?_
  have hi:=List.mem_range.1 hi;have b:=List.mem_range.1 b;have a:(g (i:Int)).toNat=(g (j:Int)).toNat:=a;have d:=hp (i:Int);have e:=hp (j:Int);have c:=hinj i j (by omega);rw [Int.emod_eq_of_lt (by omega) (by omega),Int.emod_eq_of_lt (by omega) (by omega)] at c;omega
 ·rw [rl_get,rl_get,Int.toNat_of_nonneg (hp _),Int.toNat_of_nonneg (hp _),ha];refine congrArg some (hper _ _ ?_);rw [rl_len,Int.natCast_emod];exact (Int.emod_emod_of_dvd _ (Int.dvd_refl _)).symm
def lk (T:List T3) (N v j:Int):Int:=(linkAt T N v).getD (j % ((linkAt T N v).length:Int)).toNat 0
def lkC (T:List T3) (N v j:Int):Nat:=faceE T (lk T N v j,lk T N v (j+1))
def lkD (T:List T3) (N v j:Int):Nat:=faceE T (lk T N v (j+1),lk T N v j)
end
section
variable {N : Int} {T X : List T3} {O : List Int} {v : Int}
theorem Star.three (s:Star N T v X O):3<=(linkAt T N v).length:=by
 rw [link_len s.surf s.rng,if_pos s.inner];exact inner_three s.surf s.rng s.inner
theorem Star.lk_at (s:Star N T v X O) (j:Int):(j % ((linkAt T N v).length:Int)).toNat<(linkAt T N v).length/\(((j % ((linkAt T N v).length:Int)).toNat:Nat):Int)=j % ((linkAt T N v).length:Int):=by
 have c:=s.three;have a:=Int.emod_nonneg j (by omega:((linkAt T N v).length:Int)≠0);have b:=Int.emod_lt_of_pos j (by omega:(0:Int)<((linkAt T N v).length:Int));omega
theorem Star.lk_mem (s:Star N T v X O) (j:Int):lk T N v j∈linkAt T N v:=getD_mem (s.lk_at j).1
theorem lk_per {i j:Int} (h:i % ((linkAt T N v).length:Int)=j % ((linkAt T N v).length:Int)):lk T N v i=lk T N v j:=by unfold lk;rw [h]
theorem Star.lk_inj (s:Star N T v X O) {i j:Int} (h:lk T N v i=lk T N v j):i % ((linkAt T N v).length:Int)=j % ((linkAt T N v).length:Int):=by
 have a:=s.lk_at i;have b:=s.lk_at j;have:=zbhq (link_nodup s.surf s.rng) a.1 b.1 h;omega
theorem mod_succ {m i j:Int}:(i+1) % m=(j+1) % m↔i % m=j % m:=by
 rw [Int.emod_eq_emod_iff_emod_sub_eq_zero,Int.emod_eq_emod_iff_emod_sub_eq_zero,show i+1 - (j+1)=i - j by omega]
theorem mod_neg {m i j:Int}:(-i) % m=(-j) % m↔i % m=j % m:=by
 rw [Int.emod_eq_emod_iff_emod_sub_eq_zero,Int.emod_eq_emod_iff_emod_sub_eq_zero,show -i - -j = -(i - j) by omega];constructor
 ·intro h;have:=Int.dvd_of_emod_eq_zero h;exact Int.emod_eq_zero_of_dvd (Int.dvd_neg.1 this)
 ·intro h;have:=Int.dvd_of_emod_eq_zero h;exact Int.emod_eq_zero_of_dvd (Int.dvd_neg.2 this)
theorem Star.lk_step (s:Star N T v X O) (j:Int):(lk T N v j,lk T N v (j+1))∈loopE (linkAt T N v):=by
 obtain ⟨a,b⟩:=s.lk_at j;refine mem_loopE.2 ⟨_,a,?_⟩;unfold lk;refine Prod.ext rfl (congrArg (fun k=>(linkAt T N v).getD k 0) ?_);have e:((((j % ((linkAt T N v).length:Int)).toNat+1) % (linkAt T N v).length:Nat):Int)=(j+1) % ((linkAt T N v).length:Int):=by
  rw [Int.natCast_emod,Int.natCast_add,b];exact Int.emod_add_emod j _ 1
 omega
theorem Star.lk_of (s:Star N T v X O) {e:Int × Int} (h:e∈loopE (linkAt T N v)):∃ j:Int,e=(lk T N v j,lk T N v (j+1)):=by
 obtain ⟨i,hi,rfl⟩:=mem_loopE.1 h;refine ⟨(i:Int),?_⟩;unfold lk;have a:=s.three;refine Prod.ext (congrArg (fun k=>(linkAt T N v).getD k 0) ?_) (congrArg (fun k=>(linkAt T N v).getD k 0) ?_)
 ·rw [Int.emod_eq_of_lt (by omega) (by omega)];rfl
 ·show (i+1) % (linkAt T N v).length=(((i:Int)+1) % ((linkAt T N v).length:Int)).toNat;have e:(((i+1) % (linkAt T N v).length:Nat):Int)=((i:Int)+1) % ((linkAt T N v).length:Int):=by rw [Int.natCast_emod,Int.natCast_add];rfl
  omega
theorem Star.two (s:Star N T v X O) (hop:∀ c,c<3 * T.length->vt T c=v->∃ d,opp T c=some d) (j:Int) :
  lkC T N v j<3 * T.length/\lkD T N v j<3 * T.length/\eg T (lkC T N v j)=(lk T N v j,lk T N v (j+1))/\eg T (lkD T N v j)=(lk T N v (j+1),lk T N v j)/\opp T (lkC T N v j)=some (lkD T N v j)/\vt T (lkC T N v j)=v /\
  opp X (lkC T N v j)=none/\opp X (lkD T N v j)=none:=by
 have b:=s.surf;have i:=s.lk_step j;obtain ⟨c,e,g,f⟩:=link_edge b s.rng s.inner i;have l:facing T (lk T N v j,lk T N v (j+1))=some c:=by rw [<- f];exact b.facing_eg e
 have m:lkC T N v j=c:=by unfold lkC faceE;rw [l];rfl
 obtain ⟨d,k⟩:=hop c e g;have h:facing T (lk T N v (j+1),lk T N v j)=some d:=by
  have:opp T c=facing T ((eg T c).2,(eg T c).1):=rfl;rw [f] at this;exact this.symm.trans k
 have n:lkD T N v j=d:=by unfold lkD faceE;rw [h];rfl
 have a:=b.facing_iff.1 h;rw [m,n];refine ⟨e,a.1,f,a.2,k,g,?_,?_⟩
 ·refine (s.numb.bord b s.parts e).2 (.inr ?_);rw [f];exact List.mem_map_of_mem i
 ·refine (s.numb.bord b s.parts a.1).2 (.inr ?_);rw [a.2,<- nm_swap];exact List.mem_map_of_mem i
theorem Star.cut_at (s:Star N T v X O) {f:Nat} (hf:f<3 * T.length) (h:nm (eg T f)∈(loopE (linkAt T N v)).map nm):∃ j:Int,f=lkC T N v j\/f=lkD T N v j:=by
 obtain ⟨e,g,d⟩:=List.mem_map.1 h;obtain ⟨j,rfl⟩:=s.lk_of g;refine ⟨j,?_⟩;have a:=s.surf.facing_eg hf;rcases nm_eq.1 (show nm (lk T N v j,lk T N v (j+1))=nm ((eg T f).1,(eg T f).2) from d) with ⟨b,c⟩ | ⟨b,c⟩
 ·left;unfold lkC faceE;rw [b,c];show f=(facing T (eg T f)).getD 0;rw [a];rfl
 ·right;unfold lkD faceE;rw [b,c];show f=(facing T (eg T f)).getD 0;rw [a];rfl
def lkA (T X:List T3) (N v j:Int):Int:=vt X (nx (lkC T N v j))
def lkB (T X:List T3) (N v j:Int):Int:=vt X (pv (lkD T N v j))
theorem lkC_per {i j:Int} (h:i % ((linkAt T N v).length:Int)=j % ((linkAt T N v).length:Int)):lkC T N v i=lkC T N v j:=by
 unfold lkC;rw [lk_per h,lk_per (mod_succ.2 h)]
theorem lkD_per {i j:Int} (h:i % ((linkAt T N v).length:Int)=j % ((linkAt T N v).length:Int)):lkD T N v i=lkD T N v j:=by
 unfold lkD;rw [lk_per h,lk_per (mod_succ.2 h)]
theorem Star.xrng (s:Star N T v X O) {c:Nat} (hc:c<3 * T.length):0<=vt X c/\vt X c<(O.length:Nat):=s.numb.rngX c (by rw [s.numb.len];exact hc)
theorem Star.keep (s:Star N T v X O) {x:Int} (hx:x ∉ linkAt T N v) {c:Nat} (hc:c<3 * T.length) (hcv:vt T c=x):vt X c=x:=by
 have g:=s.surf;have u:=s.three;have i:=g.rng c hc;rw [hcv] at i;have j:∀ y,nm (x,y) ∉ (loopE (linkAt T N v)).map nm:=fun y h=>by
  obtain ⟨e,r,o⟩:=List.mem_map.1 h;have a:=loopE_no_ends hx (by omega) e r;rcases nm_eq.1 (show nm (e.1,e.2)=nm (x,y) from o) with ⟨d,_⟩ | ⟨_,d⟩
  ·exact a.1 d
  ·exact a.2 d
 have n:=s.numb.old x.toNat (by omega);have l:((x.toNat:Nat):Int)=x:=Int.toNat_of_nonneg i.1;obtain ⟨b,f,q⟩:=s.numb.used x.toNat (List.getElem?_eq_some_iff.1 n).1;obtain ⟨k,o,d⟩:=s.numb.was b f;have t:k=x.toNat:=by omega
 subst t;rw [n,l] at d;have p:vt T b=x:=(Option.some.inj d).symm;have m:Sect T ((loopE (linkAt T N v)).map nm) b c:=by
  refine g.closed_all i.1 i.2 (fun y=>Sect T ((loopE (linkAt T N v)).map nm) b y) f p (Sect.refl b) (fun y z hy hyv h ha=>?_) (fun y z hy hyv h f=>?_) c hc hcv
  ·refine h.trans (Sect.step hy ha fun a=>?_);unfold ctB at a;rw [g.aft_vt ha,hyv] at a;exact j _ a
  ·refine h.trans (Sect.step (g.bef_iff.1 f).1 (g.bef_aft hy f) fun a=>?_).symm;unfold ctB at a;rw [hyv] at a;exact j _ a
 rw [<- (s.numb.same b c f hc).2 m,q,l]
structure Ringed (N : Int) (T : List T3) (v : Int) (X : List T3) (O : List Int) : Prop where
 star:Star N T v X O
 hop:∀ c,c<3 * T.length->vt T c=v->∃ d,opp T c=some d
 hin:∀ u∈linkAt T N v,innerAt T N u=true
theorem Ringed.no_aft (r:Ringed N T v X O) {x:Int} (hx:x∈linkAt T N v):aftV T x=none:=by
 have a:=r.star.surf.aftV_inner (v:=x) (let h:=link_rng r.star.surf r.star.rng hx;⟨h.1,h.2.1⟩);rw [r.hin x hx] at a;exact Option.isNone_iff_eq_none.1 a.symm
theorem Ringed.apart (r:Ringed N T v X O) (i j:Int) {c d:Nat} (hc:c / 3=lkC T N v i / 3) (hd:d / 3=lkD T N v j / 3):vt X c≠vt X d:=fun h=>by
 have s:=r.star;obtain ⟨b,_,_,_,_,e,_,_⟩:=s.two r.hop i;obtain ⟨f,n,_,_,g,k,_,_⟩:=s.two r.hop j;have m:=s.numb.len;have a:=s.cut.con_at (c:=c) (d:=d) (by omega) (by omega) h;rw [hc,hd] at a;have l:AtV T v (lkC T N v i / 3):=⟨_,b,rfl,e⟩;exact s.across f k g ((s.shell l).2 a)
theorem Ringed.next (r:Ringed N T v X O) {f:Nat} (hf:f<3 * T.length) (k:opp X f=none) (hl:vt T (nx f)∈linkAt T N v):∃ j:Int,(vt X (nx f)=vt X (pv (lkC T N v j))/\vt T (nx f)=lk T N v (j+1))\/(vt X (nx f)=vt X (pv (lkD T N v j))/\vt T (nx f)=lk T N v j):=by
 have s:=r.star;have n:=s.surf;have o:=s.numb.len;obtain ⟨b,k⟩:=s.cut.aftV_on (s.cut.aftV_iff.2 ⟨f,by omega,k,rfl,rfl⟩);obtain ⟨g,p,m,d,_⟩:=s.cut.aftV_iff.1 k;have c:g<3 * T.length:=by omega
 have i:vt T (pv g)=vt T (nx f):=s.numb.vtT (pv_lt c) (nx_lt hf) d;rcases (s.numb.bord n s.parts c).1 m with h | h
 ·have l:=r.no_aft hl;rw [<- i,(n.aftV_iff (v:=vt T (pv g)) (a:=vt T (nx g))).2 ⟨g,c,h,rfl,rfl⟩] at l;cases l
 ·obtain ⟨j,rfl | rfl⟩:=s.cut_at c h
  ·obtain ⟨_,_,e,_⟩:=s.two r.hop j;exact ⟨j,.inl ⟨d.symm,i.symm.trans (congrArg Prod.snd e)⟩⟩
  ·obtain ⟨_,_,_,e,_⟩:=s.two r.hop j;exact ⟨j,.inr ⟨d.symm,i.symm.trans (congrArg Prod.snd e)⟩⟩
theorem Ringed.nextC (r:Ringed N T v X O) (j:Int):vt X (pv (lkC T N v j))=lkA T X N v (j+1):=by
 have s:=r.star;obtain ⟨d,_,e,_,_,_,f,_⟩:=s.two r.hop (j+1);have b:vt T (nx (lkC T N v (j+1)))=lk T N v (j+1):=congrArg Prod.fst e;obtain ⟨i,⟨a,c⟩ | ⟨a,_⟩⟩:=r.next d f (by rw [b];exact s.lk_mem _)
 ·unfold lkA;rw [a];rw [b] at c;rw [lkC_per (mod_succ.1 (s.lk_inj c))]
 ·exact absurd a (r.apart (j+1) i (nx_div _) (pv_div _))
theorem Ringed.nextD (r:Ringed N T v X O) (j:Int):vt X (nx (lkD T N v j))=lkB T X N v (j+1):=by
 have s:=r.star;obtain ⟨_,d,_,e,_,_,_,f⟩:=s.two r.hop j;have b:vt T (nx (lkD T N v j))=lk T N v (j+1):=congrArg Prod.fst e;obtain ⟨i,⟨a,_⟩ | ⟨a,c⟩⟩:=r.next d f (by rw [b];exact s.lk_mem _)
 ·exact absurd a.symm (r.apart i j (pv_div _) (nx_div _))
 ·unfold lkB;rw [a];rw [b] at c;rw [lkD_per (s.lk_inj c)]
theorem Ringed.was (r:Ringed N T v X O) (j:Int):vt T (nx (lkC T N v j))=lk T N v j/\vt T (pv (lkD T N v j))=lk T N v j:=by
 obtain ⟨_,_,a,b,_⟩:=r.star.two r.hop j;exact ⟨congrArg Prod.fst a,congrArg Prod.snd b⟩
theorem Ringed.aftA (r:Ringed N T v X O) (j:Int):aftV X (lkA T X N v (j+1))=some (lkA T X N v j):=by
 obtain ⟨c,_,_,_,_,_,a,_⟩:=r.star.two r.hop j;have b:=r.star.numb.len;exact r.star.cut.aftV_iff.2 ⟨_,by omega,a,r.nextC j,rfl⟩
theorem Ringed.aftB (r:Ringed N T v X O) (j:Int):aftV X (lkB T X N v j)=some (lkB T X N v (j+1)):=by
 obtain ⟨_,c,_,_,_,_,_,a⟩:=r.star.two r.hop j;have b:=r.star.numb.len;exact r.star.cut.aftV_iff.2 ⟨_,by omega,a,rfl,r.nextD j⟩
theorem Ringed.rngA (r:Ringed N T v X O) (j:Int):0<=lkA T X N v j:=(r.star.xrng (nx_lt (r.star.two r.hop j).1)).1
theorem Ringed.rngB (r:Ringed N T v X O) (j:Int):0<=lkB T X N v j:=(r.star.xrng (pv_lt (r.star.two r.hop j).2.1)).1
theorem Ringed.injA (r:Ringed N T v X O) {i j:Int} (h:lkA T X N v i=lkA T X N v j):i % ((linkAt T N v).length:Int)=j % ((linkAt T N v).length:Int):=by
 have s:=r.star;have a:=s.numb.vtT (nx_lt (s.two r.hop i).1) (nx_lt (s.two r.hop j).1) h;rw [(r.was i).1,(r.was j).1] at a;exact s.lk_inj a
theorem Ringed.injB (r:Ringed N T v X O) {i j:Int} (h:lkB T X N v i=lkB T X N v j):i % ((linkAt T N v).length:Int)=j % ((linkAt T N v).length:Int):=by
 have s:=r.star;have a:=s.numb.vtT (pv_lt (s.two r.hop i).2.1) (pv_lt (s.two r.hop j).2.1) h;rw [(r.was i).2,(r.was j).2] at a;exact s.lk_inj a
def loA (T X:List T3) (N v:Int):List Nat:=rl (fun j=>lkA T X N v (-j)) (linkAt T N v).length
def loB (T X:List T3) (N v:Int):List Nat:=rl (fun j=>lkB T X N v j) (linkAt T N v).length
theorem Ringed.roundA (r:Ringed N T v X O):Round X (loA T X N v):=by
 have a:=r.star.three;refine round_of (by omega) (fun j=>r.rngA _) (fun i j h=>?_) (fun i j h=>mod_neg.1 (r.injA h)) fun j=>?_
 ·show vt X _=vt X _;rw [lkC_per (mod_neg.2 h)]
 ·have:=r.aftA (-(j+1))
  rwa [show -(j+1)+1 = -j by omega] at this
theorem Ringed.roundB (r:Ringed N T v X O):Round X (loB T X N v):=by
 have a:=r.star.three;refine round_of (by omega) (fun j=>r.rngB _) (fun i j h=>?_) (fun i j h=>r.injB h) fun j=>r.aftB j
 show vt X _=vt X _;rw [lkD_per h]
theorem Ringed.memA (r:Ringed N T v X O) (j:Int):(lkA T X N v j).toNat∈loA T X N v:=by
 have a:=r.star.three;have:=rl_mem (g:=fun j=>lkA T X N v (-j)) (m:=(linkAt T N v).length) (by omega) (fun i j h=>by show vt X _=vt X _;rw [lkC_per (mod_neg.2 h)]) (-j)
 rwa [Int.neg_neg] at this
theorem Ringed.memB (r:Ringed N T v X O) (j:Int):(lkB T X N v j).toNat∈loB T X N v:=by
 have a:=r.star.three;exact rl_mem (g:=fun j=>lkB T X N v j) (m:=(linkAt T N v).length) (by omega) (fun i j h=>by show vt X _=vt X _;rw [lkD_per h]) j
theorem rl_inA {x:Nat} (h:x∈loA T X N v):∃ j:Int,(lkA T X N v j).toNat=x:=by
 obtain ⟨j,a⟩:=rl_in h;exact ⟨-j,a⟩
theorem rl_inB {x:Nat} (h:x∈loB T X N v):∃ j:Int,(lkB T X N v j).toNat=x:=rl_in h
theorem Ringed.old_aft (r:Ringed N T v X O) {x y:Int} (h:aftV T x=some y):aftV X x=some y:=by
 have s:=r.star;have d:=s.surf;have i:=s.numb.len;have k:x ∉ linkAt T N v:=fun h9=>by rw [r.no_aft h9] at h;cases h
 have l:y ∉ linkAt T N v:=fun h9=>by
  obtain ⟨b,e⟩:=d.aftV_on h;rw [r.no_aft h9] at e;cases e
 obtain ⟨c,a,j,f,g⟩:=d.aftV_iff.1 h;exact s.cut.aftV_iff.2 ⟨c,by omega,(s.numb.bord d s.parts a).2 (.inl j),s.keep k (pv_lt a) f,s.keep l (nx_lt a) g⟩
theorem Ringed.old_round (r:Ringed N T v X O) {L:List Nat} {k:Nat} (hL:L∈lps T N k):Round X L:=by
 obtain ⟨a,b,c⟩:=r.star.surf.lps_round hL;exact ⟨a,b,fun i hi=>r.old_aft (c i hi)⟩
theorem Ringed.cases (r:Ringed N T v X O) {x b:Int} (h:aftV X x=some b):(∃ y,aftV T x=some y)\/(∃ j,x=lkA T X N v j)\/∃ j,x=lkB T X N v j:=by
 have s:=r.star;have k:=s.surf;have l:=s.numb.len;obtain ⟨g,n,i,d,_⟩:=s.cut.aftV_iff.1 h;have c:g<3 * T.length:=by omega
 rcases (s.numb.bord k s.parts c).1 i with e | e
 ·have f:=(k.aftV_iff (v:=vt T (pv g)) (a:=vt T (nx g))).2 ⟨g,c,e,rfl,rfl⟩;have m:vt T (pv g) ∉ linkAt T N v:=fun h9=>by rw [r.no_aft h9] at f;cases f
  have:=s.keep m (pv_lt c) rfl;rw [<- d,this];exact .inl ⟨_,f⟩
 ·obtain ⟨j,rfl | rfl⟩:=s.cut_at c e
  ·exact .inr (.inl ⟨j+1,by rw [<- d];exact r.nextC j⟩)
  ·exact .inr (.inr ⟨j,d.symm⟩)
theorem Ringed.oA (r:Ringed N T v X O) (j:Int):O[(lkA T X N v j).toNat]? = some (lk T N v j):=by
 obtain ⟨k,b,a⟩:=r.star.numb.was _ (nx_lt (r.star.two r.hop j).1);rw [(r.was j).1] at a;unfold lkA;rw [b,Int.toNat_natCast];exact a
theorem Ringed.oB (r:Ringed N T v X O) (j:Int):O[(lkB T X N v j).toNat]? = some (lk T N v j):=by
 obtain ⟨k,b,a⟩:=r.star.numb.was _ (pv_lt (r.star.two r.hop j).2.1);rw [(r.was j).2] at a;unfold lkB;rw [b,Int.toNat_natCast];exact a
theorem Ringed.oldO (r:Ringed N T v X O) {x:Nat} {y:Int} (h:aftV T (x:Int)=some y):O[x]? = some (x:Int)/\(x:Int) ∉ linkAt T N v:=by
 refine ⟨r.star.numb.old x (r.star.surf.aftV_rng h).1.2,fun h9=>?_⟩;rw [r.no_aft h9] at h;cases h
theorem Ringed.fresh (r:Ringed N T v X O) {x:Nat} {y:Int} (h:aftV T (x:Int)=some y) (j:Int):(lkA T X N v j).toNat≠x/\(lkB T X N v j).toNat≠x:=by
 obtain ⟨c,d⟩:=r.oldO h;constructor
 ·intro b;have a:=r.oA j;rw [b,c] at a;exact d (by rw [Option.some.inj a];exact r.star.lk_mem j)
 ·intro b;have a:=r.oB j;rw [b,c] at a;exact d (by rw [Option.some.inj a];exact r.star.lk_mem j)
theorem Ringed.ab (r:Ringed N T v X O) (i j:Int):(lkA T X N v i).toNat≠(lkB T X N v j).toNat:=fun h=>by
 have a:=r.rngA i;have b:=r.rngB j;exact r.apart i j (nx_div _) (pv_div _) (show lkA T X N v i=lkB T X N v j by omega)
theorem Ringed.loops (r:Ringed N T v X O):(lps X (O.length:Nat) (O.length:Nat)).length=(lps T N N.toNat).length+2:=by
 have s:=r.star;have u:=s.surf;have l:∀ L∈lps X (O.length:Nat) O.length,Round X L:=fun L hL=>s.cut.lps_round hL
 have m:∀ L∈lps T N N.toNat++[loA T X N v,loB T X N v],Round X L:=fun L hL=>by
  rcases List.mem_append.1 hL with h | h
  ·exact r.old_round h
  ·rcases List.mem_cons.1 h with rfl | h
   ·exact r.roundA
   ·rw [List.mem_singleton.1 h];exact r.roundB
 have d:∀ x:Nat,x∈(lps T N N.toNat).flatten↔∃ b,aftV T (x:Int)=some b:=fun x=>u.lps_all x
 have g:∀ x:Nat,x∈(lps X (O.length:Nat) O.length).flatten↔∃ b,aftV X (x:Int)=some b:=fun x=>s.cut.lps_all x
 have t:(lps X (O.length:Nat) O.length).length<=(lps T N N.toNat++[loA T X N v,loB T X N v]).length:=by
  refine fam_le l m (s.cut.lps_pair _) fun L hL=>?_
  have e:=l L hL;have f:=e.2.2 0 e.1;have o:L[0]'e.1∈L:=List.getElem_mem _;rcases r.cases f with ⟨y,k⟩ | ⟨j,n⟩ | ⟨j,n⟩
  ·obtain ⟨M,c,q⟩:=List.mem_flatten.1 ((d _).2 ⟨y,k⟩);exact ⟨M,List.mem_append_left _ c,_,o,q⟩
  ·refine ⟨_,List.mem_append_right _ (List.mem_cons_self ..),_,o,?_⟩;have:=r.memA j
   rwa [<- n,Int.toNat_natCast] at this
  ·refine ⟨_,List.mem_append_right _ (List.mem_cons_of_mem _ (List.mem_singleton.2 rfl)),_,o,?_⟩;have:=r.memB j
   rwa [<- n,Int.toNat_natCast] at this
 have f:(lps T N N.toNat++[loA T X N v,loB T X N v]).length<=(lps X (O.length:Nat) O.length).length:=by
  refine fam_le m l ?_ fun L hL=>?_
  ·rw [List.pairwise_append];have p:∀ L∈lps T N N.toNat,∀ a∈L,∃ y,aftV T (a:Int)=some y:=fun L hL a ha=>(d a).1 (List.mem_flatten.2 ⟨L,hL,ha⟩)
   refine ⟨u.lps_pair _,?_,fun L hL M c a ha b hb=>?_⟩
   ·rw [List.pairwise_cons];refine ⟨fun M c a ha b hb=>?_,by simp⟩;rw [List.mem_singleton.1 c] at hb;obtain ⟨i,rfl⟩:=rl_inA ha;obtain ⟨j,rfl⟩:=rl_inB hb;exact r.ab i j
   ·obtain ⟨y,k⟩:=p L hL a ha;rcases List.mem_cons.1 c with rfl | h
    ·obtain ⟨j,rfl⟩:=rl_inA hb;exact fun h9=>(r.fresh k j).1 h9.symm
    ·rw [List.mem_singleton.1 h] at hb;obtain ⟨j,rfl⟩:=rl_inB hb;exact fun h9=>(r.fresh k j).2 h9.symm
  ·have e:=m L hL;obtain ⟨M,c,q⟩:=List.mem_flatten.1 ((g _).2 ⟨_,e.2.2 0 e.1⟩);exact ⟨M,c,_,List.getElem_mem _,q⟩
 rw [List.length_append] at t f;exact Nat.le_antisymm t f
end
end Go.Mesh
