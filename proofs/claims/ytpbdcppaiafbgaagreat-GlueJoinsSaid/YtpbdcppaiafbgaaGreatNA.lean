/- Za6: what is counted of a surface's shells; no program in. -/
import Derived.Test.YtpbdcppaiafbgaaGreatDK
import Derived.Test.YtpbdcppaiafbgaaGreatHK
import Derived.Test.YtpbdcppaiafbgaaGreatBP
namespace Go.Mesh
section
variable {N : Int} {T : List T3} {ox : List Int} {C : Nat}
theorem Pt.in_{n:Nat}(h:Pt T ox n T.length){x:Nat}(hx:x<T.length):∃i,i<n/\ox[x]? = some (i:Int)/\Con T (sd T i) x:=by
 rcases h.is x hx with a|⟨a,_⟩
 ·exact a
 ·exact absurd a (h.done x hx)
theorem Pt.one(hs:Surf N T){o1 o2:List Int}{c1 c2:Nat}(h1:Pt T o1 c1 T.length)(h2:Pt T o2 c2 T.length):c1=c2:=by
 have c:∀ {a b:List Int} {x y:Nat},Pt T a x T.length->Pt T b y T.length->¬x<y:=fun {a b x y} ha hb hlt=>by
  have d:sd T x<T.length:=hs.sd_lt (by have:=hb.np;omega);obtain⟨i,hi,_,e⟩:=ha.in_ d;exact hb.apart i x hi hlt e
 have f:=c h1 h2;have g:=c h2 h1;omega
def shN(ox:List Int)(t:Nat):Nat:=(ox.getD t 0).toNat
theorem Zlg(h:Pt T ox C T.length){t:Nat}(ht:t<T.length):shN ox t<C/\ox[t]? = some (shN ox t:Int)/\Con T (sd T (shN ox t)) t:=by
 obtain⟨i,hi,e,a⟩:=h.in_ ht;have:shN ox t=i:=by unfold shN;rw[zD,e];simp
 rw[this];exact⟨hi,e,a⟩
theorem shN_near(hs:Surf N T)(h:Pt T ox C T.length){c d:Nat}(ho:opp T c=some d):shN ox (c/3)=shN ox (d/3):=by
 have j:=hs.opp_lt ho;have k:=(hs.opp_iff.1 ho).1;obtain⟨b,i,f⟩:=Zlg h (t:=c/3) (by omega);have g:besd T (c/3) (d/3)=true:=Zh1 hs ho;have e:=h.at_ hs b (x:=d/3) (by omega) (f.step hs g);have a:=(Zlg h (t:=d/3) (by omega)).2.1;rw[e]at a;have:=zO a;omega
def cnr(T:List T3)(v:Nat):Nat:=(Zcy T (v:Int)).getD 0
theorem cnr_at(hs:Surf N T){v:Nat}(hv:(v:Int)<N):Zcy T (v:Int)=some (cnr T v)/\cnr T v<3*T.length/\vt T (cnr T v)=(v:Int):=by
 obtain⟨b,a⟩:=hs.corner_some (v:=(v:Int)) (by omega) hv;have e:cnr T v=b:=by unfold cnr;rw[a];rfl
 rw[e];obtain⟨_,d,c,_⟩:=(zamq _ _ _ _).1 a;exact⟨a,by omega,by simpa using c⟩
def cF(ox:List Int)(s k:Nat):Nat:=(List.range k).countP fun t=>shN ox t==s
def cC(ox:List Int)(s k:Nat):Nat:=(List.range k).countP fun c=>shN ox (c/3)==s
def cO(T:List T3)(ox:List Int)(s k:Nat):Nat:=(List.range k).countP fun c=>shN ox (c/3)==s&&(opp T c).isNone
def cV(T:List T3)(ox:List Int)(s k:Nat):Nat:=(List.range k).countP fun v=>shN ox (cnr T v/3)==s
def cB(T:List T3)(ox:List Int)(L:List (List Nat))(s:Nat):Nat:=L.countP fun l=>shN ox (cnr T (l.headD 0)/3)==s
theorem Zkh(p:Nat->Bool)(k:Nat):(List.range (k+1)).countP p=(List.range k).countP p+if p k=true then 1 else 0:=by
 rw[List.range_succ,List.countP_append,List.countP_cons,List.countP_nil,Nat.zero_add]
theorem Ze4(p:Nat->Bool)(k:Nat):(List.range k).countP p<=k:=by
 have h:=List.countP_le_length (p:=p) (l:=List.range k)
 rwa [List.length_range]at h
def sumN(f:Nat->Nat)(C:Nat):Nat:=((List.range C).map f).sum
def sumI(f:Nat->Int)(C:Nat):Int:=((List.range C).map f).sum
theorem Zd2(f:Nat->Nat)(C:Nat):sumN f (C+1)=sumN f C+f C:=by unfold sumN;rw[List.range_succ,List.map_append,List.sum_append];simp
theorem Zdc(f:Nat->Int)(C:Nat):sumI f (C+1)=sumI f C+f C:=by unfold sumI;rw[List.range_succ,List.map_append,List.sum_append];simp
theorem Zs8(f g:Nat->Nat):∀C,sumN (fun s=>f s+g s) C=sumN f C+sumN g C
 | 0=>rfl
 | C+1=>by rw[Zd2,Zd2,Zd2,Zs8 f g C];omega
theorem sumN_zero:∀C,sumN (fun _=>0) C=0
 | 0=>rfl
 | C+1=>by rw[Zd2,sumN_zero C]
theorem sumN_one(a:Nat):∀C,sumN (fun s=>if(a==s)=true then 1 else 0) C=if a<C then 1 else 0
 | 0=>by rw[if_neg (Nat.not_lt_zero a)];rfl
 | C+1=>by
  rw[Zd2,sumN_one a C];simp only[beq_iff_eq]
  (repeat' split)<;>omega
theorem Zys{f g:Nat->Nat}:∀ {C:Nat},(∀s,s<C->f s=g s)->sumN f C=sumN g C
 | 0,_=>rfl
 | C+1,h=>by rw[Zd2,Zd2,Zys fun s hs=>h s (by omega),h C (by omega)]
theorem Znm{f g:Nat->Int}:∀ {C:Nat},(∀s,s<C->f s=g s)->sumI f C=sumI g C
 | 0,_=>rfl
 | C+1,h=>by rw[Zdc,Zdc,Znm fun s hs=>h s (by omega),h C (by omega)]
theorem Zpt(f:Nat->Nat):∀C,sumI (fun s=>((f s:Nat):Int)) C=((sumN f C:Nat):Int)
 | 0=>rfl
 | C+1=>by rw[Zdc,Zd2,Zpt f C];omega
theorem Zj4{α:Type}(f:α->Nat)(C:Nat):∀l:List α,(∀x∈l,f x<C)->sumN (fun s=>l.countP fun x=>f x==s) C=l.length
 | [],_=>by simp only[List.countP_nil,List.length_nil];exact sumN_zero C
 | x::l,h=>by
  have e:(fun s=>(x::l).countP fun x=>f x==s)=fun s=>(l.countP fun x=>f x==s)+if(f x==s)=true then 1 else 0:=funext fun s=>by rw[List.countP_cons]
  rw[e,Zs8,Zj4 f C l fun y hy=>h y (List.mem_cons_of_mem _ hy),sumN_one,if_pos (h x (List.mem_cons_self ..)),List.length_cons]
theorem Zh4(p:Nat->Bool):∀l:List Nat,l.length=(l.filter p).length+(l.filter fun x=>!p x).length
 | []=>rfl
 | x::l=>by
  have h:=Zh4 p l;rw[List.filter_cons,List.filter_cons,List.length_cons];cases p x<;>simp<;>omega
theorem pairs_even{l:List Nat}(f:Nat->Nat)(hn:l.Nodup)(h1:∀x∈l,f x∈l)(h2:∀x∈l,f (f x)=x)(h3:∀x∈l,f x≠x):l.length%2=0:=by
 have e:(l.filter fun x=>decide (x<f x)).length=(l.filter fun x=>!decide (x<f x)).length:=by
  rw[<- (zL f:((l.filter fun x=>decide (x<f x)).map f).length=(l.filter fun x=>decide (x<f x)).length)];refine same_len (Zca (hn.filter _) fun a ha b hb hab=>?_) (hn.filter _) fun y=>?_
  ·have i:=h2 a (zQ.1 ha).1;have j:=h2 b (zQ.1 hb).1;rw[<- i,<- j,hab]
  ·rw[zB,zQ];constructor
   ·rintro⟨x,g,rfl⟩;obtain⟨c,d⟩:=zQ.1 g;have d:=of_decide_eq_true d;refine⟨h1 x c,?_⟩;rw[h2 x c];simp only[Bool.not_eq_true',decide_eq_false_iff_not];omega
   ·rintro⟨c,d⟩;simp only[Bool.not_eq_true',decide_eq_false_iff_not]at d;have:=h3 y c;exact⟨f y,zQ.2 ⟨h1 y c,zY (by rw[h2 y c];omega)⟩,h2 y c⟩
 have h:=Zh4 (fun x=>decide (x<f x)) l;omega
theorem ends_even(hs:Surf N T)(h:Pt T ox C T.length)(s:Nat):(cC ox s (3*T.length)+cO T ox s (3*T.length))%2=0:=by
 have g:cC ox s (3*T.length)=((List.range (3*T.length)).filter fun c=>shN ox (c/3)==s&&(opp T c).isSome).length+cO T ox s (3*T.length):=by
  unfold cC cO;rw[<- List.countP_eq_length_filter];generalize List.range (3*T.length)=l
  induction l with
  | nil=>rfl
  | cons c l ih =>
   rw[List.countP_cons,List.countP_cons,List.countP_cons,ih];cases (shN ox (c/3)==s)<;>cases opp T c<;>simp<;>omega
 have i:=pairs_even (l:=(List.range (3*T.length)).filter fun c=>shN ox (c/3)==s&&(opp T c).isSome) (fun c=>(opp T c).getD 0) (List.nodup_range.filter _) (fun c hc=>?_) (fun c hc=>?_) (fun c hc=>?_)
 ·omega
 all_goals
  obtain⟨j,b⟩:=zQ.1 hc;rw[Bool.and_eq_true,beq_iff_eq,Option.isSome_iff_exists]at b;obtain⟨b,d,a⟩:=b;have f:=hs.opp_symm (hs.opp_lt a) a
 ·rw[a,Option.getD_some,zQ,zR,Bool.and_eq_true,beq_iff_eq];exact⟨hs.opp_lt f,by rw[<- shN_near hs h a];exact b,by rw[f];rfl⟩
 ·rw[a,Option.getD_some,f];rfl
 ·rw[a,Option.getD_some];intro e;subst e;have:=(hs.opp_iff.1 a).2.1;exact hs.loop3 (hs.opp_lt a) this
end
def gE(T:List T3)(ox:List Int)(s:Nat):Nat:=(cC ox s (3*T.length)+cO T ox s (3*T.length))/2
def gU(N:Int)(T:List T3)(ox:List Int)(s:Nat):Int:=(cV T ox s N.toNat:Int)-(gE T ox s:Int)+(cF ox s T.length:Int)
def gG(N:Int)(T:List T3)(ox:List Int)(s:Nat):Int:=((2:Int)-(cB T ox (lps T N N.toNat) s:Int)-gU N T ox s).tdiv 2
section
variable {N : Int} {T : List T3} {ox : List Int} {C : Nat}
theorem sumN_cV(hs:Surf N T)(h:Pt T ox C T.length):sumN (fun s=>cV T ox s N.toNat) C=N.toNat:=by
 have:=Zj4 (fun v=>shN ox (cnr T v/3)) C (List.range N.toNat) fun v a=>by
  have a:=zR.1 a;have b:=(cnr_at hs (v:=v) (by omega)).2.1;exact(Zlg h (t:=cnr T v/3) (by omega)).1
 rw[List.length_range]at this;exact this
theorem sumN_cF(h:Pt T ox C T.length):sumN (fun s=>cF ox s T.length) C=T.length:=by
 have:=Zj4 (fun t=>shN ox t) C (List.range T.length) fun t ht=>(Zlg h (zR.1 ht)).1
 rw[List.length_range]at this;exact this
theorem sumN_cC(h:Pt T ox C T.length):sumN (fun s=>cC ox s (3*T.length)) C=3*T.length:=by
 have:=Zj4 (fun c=>shN ox (c/3)) C (List.range (3*T.length)) fun c hc=>(Zlg h (t:=c/3) (by have:=zR.1 hc;omega)).1
 rw[List.length_range]at this;exact this
theorem Zty{α:Type}(p q:α->Bool):∀l:List α,(l.countP fun x=>p x&&q x)=(l.filter q).countP p
 | []=>rfl
 | x::l=>by
  rw[List.countP_cons,Zty p q l,List.filter_cons];cases a:q x
  ·simp
  ·simp[List.countP_cons]
theorem sumN_cO(h:Pt T ox C T.length):sumN (fun s=>cO T ox s (3*T.length)) C=bordC T:=by
 have:=Zj4 (fun c=>shN ox (c/3)) C ((List.range (3*T.length)).filter fun c=>(opp T c).isNone) fun c hc=>(Zlg h (t:=c/3) (by have:=zR.1 (zQ.1 hc).1;omega)).1
 have e:bordC T=((List.range (3*T.length)).filter fun c=>(opp T c).isNone).length:=by
  unfold bordC;rw[List.countP_eq_length_filter];refine congrArg List.length (List.filter_congr fun c _=>?_);cases opp T c<;>rfl
 rw[e,<- this];refine Zys fun s _=>?_
 unfold cO;exact Zty _ _ _
theorem sumN_gE(hs:Surf N T)(h:Pt T ox C T.length):2*sumN (fun s=>gE T ox s) C=3*T.length+bordC T:=by
 rw[<- sumN_cC h,<- sumN_cO h,<- Zs8];have e:∀s,cC ox s (3*T.length)+cO T ox s (3*T.length)=gE T ox s+gE T ox s:=fun s=>by
  have:=ends_even hs h s;unfold gE;omega
 rw[show(fun s=>cC ox s (3*T.length)+cO T ox s (3*T.length))=fun s=>gE T ox s+gE T ox s from funext e,Zs8 (fun s=>gE T ox s) (fun s=>gE T ox s)];omega
theorem Zwc(hs:Surf N T)(h:Pt T ox C T.length):sumN (fun s=>cB T ox (lps T N N.toNat) s) C=(lps T N N.toNat).length:=by
 refine Zj4 (fun l:List Nat=>shN ox (cnr T (l.headD 0)/3)) C _ fun L hL=>?_
 have a:=(hs.lps_each _ L hL).1;have b:L.headD 0∈L:=by
  cases L with
  | nil=>simp at a
  | cons x l=>exact List.mem_cons_self ..
 have c:=(cnr_at hs (v:=L.headD 0) (hs.lps_lt hL b)).2.1;exact(Zlg h (t:=cnr T (L.headD 0)/3) (by omega)).1
theorem Zyr(a b c:Nat->Nat):∀C,sumI (fun s=>((a s:Nat):Int)-((b s:Nat):Int)+((c s:Nat):Int)) C=((sumN a C:Nat):Int)-((sumN b C:Nat):Int)+((sumN c C:Nat):Int)
 | 0=>rfl
 | C+1=>by
  rw[Zdc,Zd2,Zd2,Zd2,Zyr a b c C];omega
theorem sumI_gU(hs:Surf N T)(h:Pt T ox C T.length):2*sumI (fun s=>gU N T ox s) C=2*N-(3*(T.length:Int)+bordC T)+2*T.length:=by
 have e:sumI (fun s=>gU N T ox s) C=_:=Zyr (fun s=>cV T ox s N.toNat) (fun s=>gE T ox s) (fun s=>cF ox s T.length) C;rw[e,sumN_cV hs h,sumN_cF h];have a:=sumN_gE hs h;have b:=hs.n0;omega
