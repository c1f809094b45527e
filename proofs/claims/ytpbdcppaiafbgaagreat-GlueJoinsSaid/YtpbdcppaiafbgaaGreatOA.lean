/- Za6: a cut's numbers in a form that can be reckoned; an. -/
import Derived.Test.YtpbdcppaiafbgaaGreatHP
import Derived.Test.YtpbdcppaiafbgaaGreatBP
import Derived.Test.YtpbdcppaiafbgaaGreatFI
namespace Go.Mesh
section
variable {N : Int} {T : List T3} {C : List (Int×Int)}
def secB(N:Int)(T:List T3)(C:List (Int×Int))(c d:Nat):Bool :=
 (List.range (Zad T N (vt T c)).length).any fun i=>(List.range (Zad T N (vt T c)).length).any fun j =>
  ((Zad T N (vt T c)).getD i 0==c&&(Zad T N (vt T c)).getD j 0==d)&&mlab T C (Zad T N (vt T c)) (Zae T N (vt T c)) i==mlab T C (Zad T N (vt T c)) (Zae T N (vt T c)) j
theorem secB_iff(hs:Surf N T){c d:Nat}(hc:c<3*T.length):secB N T C c d=true↔Sect T C c d:=by
 obtain⟨o,r⟩:=hs.ring_in (hs.rng c hc);unfold secB;generalize Zad T N (vt T c)=l at *;generalize Zae T N (vt T c)=k at *;simp only[List.any_eq_true,zR,Bool.and_eq_true,beq_iff_eq];constructor
 ·rintro⟨i,hi,j,a,⟨f,g⟩,m⟩;rw[Zav hi]at f;rw[Zav a]at g;have n:=(r.sect (C:=C) hi a).2 m
  rwa [f,g]at n
 ·intro h;obtain⟨i,hi,b⟩:=zE ((r.mem c).2 ⟨hc,rfl⟩);obtain⟨j,a,e⟩:=zE ((r.mem d).2 ⟨h.lt hs hc,h.vt hs⟩);exact⟨i,hi,j,a,⟨by rw[Zav hi,b],by rw[Zav a,e]⟩,(r.sect hi a).1 (by rw[b,e];exact h)⟩
def headB(N:Int)(T:List T3)(C:List (Int×Int))(c:Nat):Bool:=(List.range c).all fun d=>!secB N T C d c
theorem headB_iff(hs:Surf N T){c:Nat}(hc:c<3*T.length):headB N T C c=true↔Head T C c:=by
 unfold headB Head;simp only[List.all_eq_true,zR,Bool.not_eq_true'];refine forall_congr' fun d=>forall_congr' fun hd=>?_
 rw[<- secB_iff hs (show d<3*T.length by omega)];simp
def exVB(N:Int)(T:List T3)(C:List (Int×Int))(v:Int):List Nat:=(List.range (3*T.length)).filter fun c=>(vt T c==v&&headB N T C c)&&(List.range c).any fun d=>vt T d==vt T c
theorem exVB_eq(hs:Surf N T)(v:Int):exV T C v=exVB N T C v:=by
 unfold exV exVB;refine List.filter_congr fun c e=>?_
 have e:=zR.1 e;rw[Bool.eq_iff_iff,@decide_eq_true_iff _ (Classical.propDecidable _)];unfold Zqd;rw[Bool.and_eq_true,Bool.and_eq_true,beq_iff_eq,headB_iff hs e,List.any_eq_true];simp only[zR,beq_iff_eq];exact⟨fun⟨a,b,d,c1,c2⟩=>⟨⟨a,b⟩,d,c1,c2⟩,fun⟨⟨a,b⟩,d,c1,c2⟩=>⟨a,b,d,c1,c2⟩⟩
def exHB(N:Int)(T:List T3)(C:List (Int×Int))(k:Nat):List Nat:=(List.range k).flatMap fun v:Nat=>exVB N T C (v:Int)
theorem exHB_eq(hs:Surf N T)(k:Nat):exH T C k=exHB N T C k:=by
 unfold exH exHB;exact congrArg (fun f=>(List.range k).flatMap f) (funext fun v=>exVB_eq hs v)
theorem Zo1{α:Type}{p q:α->Bool}:∀ {l:List α},(∀x∈l,p x=q x)->l.findIdx? p=l.findIdx? q
 | [],_=>rfl
 | x::l,h=>by
  rw[List.findIdx?_cons,List.findIdx?_cons,h x (List.mem_cons_self ..),Zo1 fun y hy=>h y (List.mem_cons_of_mem _ hy)]
def numB(N:Int)(T:List T3)(C:List (Int×Int))(H:List Nat)(c:Nat):Int :=
 match H.findIdx? fun e=>secB N T C e c with
 | some i=>N+((i:Nat):Int)
 | none=>vt T c
theorem newX_is(hs:Surf N T)(C:List (Int×Int)):newX N T C=relab (numB N T C (exHB N T C N.toNat)) T.length:=by
 unfold newX;rw[newN_eq];refine congrArg (fun f=>relab f T.length) (funext fun c=>?_);unfold numE numB;have b:((exH T C N.toNat).findIdx? fun e=>@decide (Sect T C e c) (Classical.propDecidable _))=(exHB N T C N.toNat).findIdx? fun e=>secB N T C e c:=by
  rw[<- exHB_eq hs];refine Zo1 fun e he=>?_
  obtain⟨_,_,a,_⟩:=mem_exH.1 he;rw[Bool.eq_iff_iff,@decide_eq_true_iff _ (Classical.propDecidable _)];exact(secB_iff hs a).symm
 rw[b];cases (exHB N T C N.toNat).findIdx? fun e=>secB N T C e c<;>rfl
theorem newO_is(hs:Surf N T)(C:List (Int×Int)):newO N T C=(List.range N.toNat).map (fun v:Nat=>(v:Int))++(exHB N T C N.toNat).map (vt T):=by
 unfold newO;rw[exHB_eq hs]
end
def oct:List T3:=[(0,1,2),(0,2,3),(0,3,4),(0,4,1),(5,2,1),(5,3,2),(5,4,3),(5,1,4)]
def octL:List (Int×Int):=[(1,2),(2,3),(3,4),(4,1)]
def octX:List T3:=[(0,1,2),(0,2,3),(0,3,4),(0,4,1),(5,7,6),(5,8,7),(5,9,8),(5,6,9)]
def octO:List Int:=[0,1,2,3,4,5,1,2,3,4]
theorem Zpv:Surf 6 oct:=Zhw (by decide +kernel)
theorem newX_oct:newX 6 oct (octL.map nm)=octX:=by
 rw[newX_is Zpv];decide +kernel
theorem newO_oct:newO 6 oct (octL.map nm)=octO:=by
 rw[newO_is Zpv];decide +kernel
def jAt(l:List Nat)(i:Int):Int:=((l.getD (i%(l.length:Int)).toNat 0:Nat):Int)
def Za4(p q:List Nat)(turn:Int):List P4:=(List.range p.length).map fun i:Nat=>((jAt p ((i:Int)+1),jAt p (i:Int)),(jAt q (turn-(i:Int)),jAt q (turn-(i:Int)-1)))
theorem Zux(p q:List Nat)(turn:Int):(Za4 p q turn).length=p.length:=by unfold Za4;simp
theorem joinP_take{p q:List Nat}{turn:Int}{i:Nat}(hi:i<p.length):(Za4 p q turn).take (i+1)=(Za4 p q turn).take i++[((jAt p ((i:Int)+1),jAt p (i:Int)),(jAt q (turn-(i:Int)),jAt q (turn-(i:Int)-1)))]:=by
 rw[zT (by rw[Zux];exact hi)];unfold Za4;simp
theorem joinP_turn(p q:List Nat){s t:Int}(h:s%(q.length:Int)=t%(q.length:Int)):Za4 p q s=Za4 p q t:=by
 unfold Za4;refine List.map_congr_left fun i _=>?_
 have e:∀k:Int,jAt q (s-k)=jAt q (t-k):=fun k=>by
  unfold jAt;rw[Int.sub_emod,h,<- Int.sub_emod]
 rw[e,show s-(i:Int)-1=s-((i:Int)+1) by omega,show t-(i:Int)-1=t-((i:Int)+1) by omega,e]
section
variable {N : Int} {T : List T3}
def Round(T:List T3)(L:List Nat):Prop:=0<L.length/\L.Nodup/\∀i (hi:i<L.length),aftV T (L[i]:Int)=some ((L[(i+1)%L.length]'(Nat.mod_lt _ (by omega)):Nat):Int)
theorem BLoop.round{v:Int}{L:List Nat}(hv:0<=v)(h:BLoop T N v L):Round T L:=by
 refine⟨h.ne,h.nodup,fun i hi=>?_⟩;by_cases b:i+1<L.length
 ·have e:(i+1)%L.length=i+1:=Nat.mod_eq_of_lt b;simp only[e];exact h.step i _ _ (zG hi) (zG b)
 ·have e:(i+1)%L.length=0:=by rw[show i+1=L.length by omega,Nat.mod_self]
  simp only[e];have c:=h.last L[i] (by rw[show L.length-1=i by omega];exact zG hi);have a:=h.head;rw[zG h.ne]at a;have a:=zO a;rw[c,a,Int.toNat_of_nonneg hv]
theorem Surf.lps_round(h:Surf N T){L:List Nat}{k:Nat}(hL:L∈lps T N k):Round T L:=by
 obtain⟨_,u,_,rfl,a,b⟩:=h.lps_each k L hL;exact(h.loop_is b).round (by omega)
theorem Surf.lps_apart(h:Surf N T){k x y:Nat}(hx:x<(lps T N k).length)(hy:y<(lps T N k).length)(hne:x≠y):∀a∈(lps T N k)[x],a ∉ (lps T N k)[y]:=fun a ha hb=>by
 have d:=h.lps_nodup k;have c:=(List.pairwise_flatten.1 d).2;rcases zK x y with b|b
 ·exact(List.pairwise_iff_getElem.1 c x y hx hy b) a ha a hb rfl
 ·exact(List.pairwise_iff_getElem.1 c y x hy hx (by omega)) a hb a ha rfl
theorem Round.at_{L:List Nat}(h:Round T L)(j:Int):∃i,∃hi:i<L.length,jAt L j=(L[i]:Int)/\(i:Int)=j%(L.length:Int):=by
 have a:(0:Int)<(L.length:Int):=by have:=h.1;omega
 have b:=Int.emod_nonneg j (by omega:(L.length:Int)≠0);have c:=Int.emod_lt_of_pos j a;refine⟨(j%(L.length:Int)).toNat,by omega,?_,by omega⟩;unfold jAt;rw[zD,zG (by omega)];rfl
theorem Round.edge{L:List Nat}(h:Round T L)(hs:Surf N T)(j:Int):(jAt L (j+1),jAt L j)∈bedges T:=by
 obtain⟨i,hi,b,d⟩:=h.at_ j;obtain⟨k,o,e,f⟩:=h.at_ (j+1);have a:k=(i+1)%L.length:=by
  have:(k:Int)=((i+1)%L.length:Nat):=by
   rw[f,Int.natCast_emod,Int.natCast_add,d];exact(Int.emod_add_emod j (L.length:Int) 1).symm
  exact Int.ofNat.inj this
 subst a;rw[b,e];obtain⟨c,m,n,g,l⟩:=hs.aftV_iff.1 (h.2.2 i hi);unfold bedges;refine zB.2 ⟨c,mem_bord.2 ⟨m,n⟩,?_⟩;unfold eg;rw[g,l]
theorem Round.inj{L:List Nat}(h:Round T L){i j:Int}(he:jAt L i=jAt L j):i%(L.length:Int)=j%(L.length:Int):=by
 obtain⟨a,g,c,d⟩:=h.at_ i;obtain⟨b,k,e,f⟩:=h.at_ j;rw[c,e]at he;have:=(List.getElem_inj h.2.1).1 (Int.ofNat.inj he);rw[<- d,<- f,this]
theorem Round.mem{L:List Nat}(h:Round T L)(i:Int):∃a:Nat,a∈L/\jAt L i=(a:Int):=by
 obtain⟨k,b,e,_⟩:=h.at_ i;exact⟨_,zM b,e⟩
theorem mod_inj{n i j:Nat}(t:Int)(hi:i<n)(hj:j<n)(h:(t-(i:Int)-1)%(n:Int)=(t-(j:Int)-1)%(n:Int)):i=j:=by
 have c:=Int.emod_eq_emod_iff_emod_sub_eq_zero.1 h;have b:(n:Int) ∣ (t-(i:Int)-1)-(t-(j:Int)-1):=Int.dvd_of_emod_eq_zero c;rw[show(t-(i:Int)-1)-(t-(j:Int)-1)=(j:Int)-(i:Int) by omega]at b;obtain⟨k,d⟩:=b;rcases Int.lt_trichotomy k 0 with a|a|a
 ·have:(n:Int)*k<=(n:Int)*(-1):=Int.mul_le_mul_of_nonneg_left (by omega) (by omega);omega
 ·subst a;omega
 ·have:(n:Int)*1<=(n:Int)*k:=Int.mul_le_mul_of_nonneg_left (by omega) (by omega);omega
theorem join_placed(hs:Surf N T){p q:List Nat}(hp:Round T p)(hq:Round T q)(hl:q.length=p.length)(hd:∀a∈p,a ∉ q)(turn:Int):Zaw (fun e=>decide (e∈bedges T)) (Za4 p q turn)=0:=by
 have o:∀i:Int,(jAt q (turn-i),jAt q (turn-i-1))∈bedges T:=fun i=>by
  have:=hq.edge hs (turn-i-1)
  rwa [show turn-i-1+1=turn-i by omega]at this
 refine Zjw ?_ ?_
 ·rw[List.all_eq_true];intro e c;unfold edgs Za4 at c;rw[List.mem_flatMap]at c;obtain⟨x,g,c⟩:=c;obtain⟨i,_,rfl⟩:=zB.1 g;simp only[List.mem_cons,List.not_mem_nil,or_false]at c;rcases c with rfl|rfl
  ·exact zY (hp.edge hs _)
  ·exact zY (o _)
 ·have f:∀i j:Int,jAt p i≠jAt q j:=fun i j h=>by
   obtain⟨a,r,l⟩:=hp.mem i;obtain⟨b,s,m⟩:=hq.mem j;rw[l,m]at h;exact hd a r (by rw[Int.ofNat.inj h];exact s)
  unfold edgs Za4;rw[List.flatMap_map];refine List.pairwise_flatMap.2 ⟨fun i _=>?_,?_⟩
  ·simp only[List.pairwise_cons,List.mem_cons,List.not_mem_nil,or_false,false_implies,implies_true,List.Pairwise.nil,and_true];intro e c h;subst c;exact f _ _ (congrArg Prod.snd h)
  ·refine(List.nodup_range (n:=p.length)).imp_of_mem fun {i j} hi k hij x g y d h=>?_
   have hi:=zR.1 hi;have k:=zR.1 k;simp only[List.mem_cons,List.not_mem_nil,or_false]at g d;subst h;rcases g with rfl|rfl<;>rcases d with d|d
   ·have:=hp.inj (congrArg Prod.snd d);rw[Int.emod_eq_of_lt (by omega) (by omega),Int.emod_eq_of_lt (by omega) (by omega)]at this;omega
   ·exact f _ _ (congrArg Prod.snd d)
   ·exact f _ _ (congrArg Prod.snd d).symm
   ·have:=hq.inj (congrArg Prod.snd d);rw[hl]at this;exact hij (mod_inj turn hi k this)
