/- Za6: two surfaces side by side, and joined: one shell, the. -/
import Derived.Test.YtpbdcppaiafbgaaGreatNE
import Derived.Test.YtpbdcppaiafbgaaGreatNK
import Derived.Test.YtpbdcppaiafbgaaGreatOQ
import Derived.Test.YtpbdcppaiafbgaaGreatND
set_option maxRecDepth 100000
set_option maxHeartbeats 8000000
namespace Go.Mesh
def sh3(k:Int)(x:T3):T3:=(x.1+k,x.2.1+k,x.2.2+k)
def duo(n:Int)(A B:List T3):List T3:=A++B.map (sh3 n)
theorem Zi8(n:Int)(A B:List T3):(duo n A B).length=A.length+B.length:=by unfold duo;simp
theorem Ziq{n:Int}{A B:List T3}{c:Nat}(hc:c<3*A.length):vt (duo n A B) c=vt A c:=by
 unfold vt duo;rw[zD,zD,List.getElem?_append_left (by omega)]
theorem Zip{n:Int}{A B:List T3}{c:Nat}(hc:c<3*B.length):vt (duo n A B) (3*A.length+c)=vt B c+n:=by
 unfold vt duo;rw[zD,zD,List.getElem?_append_right (by omega),show(3*A.length+c)/3-A.length=c/3 by omega,show(3*A.length+c)%3=c%3 by omega,zJ,zG (show c/3<B.length by omega)];show vx (sh3 n B[c/3]) (c%3)=vx B[c/3] (c%3)+n;have:c%3=0\/c%3=1\/c%3=2:=by omega
 rcases this with h|h|h<;>rw[h]<;>rfl
theorem nx_hi(F c:Nat):nx (3*F+c)=3*F+nx c:=by unfold nx;omega
theorem pv_hi(F c:Nat):pv (3*F+c)=3*F+pv c:=by unfold pv;omega
structure Duo (n k : Nat) (A B : List T3) : Prop where
 hA:Surf (n:Int) A
 hB:Surf (k:Int) B
 hS:Surf ((n+k:Nat):Int) (duo n A B)
section
variable {n k : Nat} {A B : List T3}
theorem Duo.split(_h:Duo n k A B){d:Nat}(hd:d<3*(duo n A B).length):d<3*A.length\/∃e,e<3*B.length/\d=3*A.length+e:=by
 rw[Zi8]at hd;rcases zK d (3*A.length)with h|h
 ·exact .inl h
 ·exact .inr ⟨d-3*A.length,by omega,by omega⟩
theorem Duo.oppLo(h:Duo n k A B){c:Nat}(hc:c<3*A.length):opp (duo n A B) c=opp A c:=Zht fun d=>by
 have j:=Zi8 (n:Int) A B;rw[h.hS.opp_iff,h.hA.opp_iff,Ziq (Zam hc),Ziq (Zaj hc)];have l:=h.hA.rng _ (Zaj hc);constructor
 ·rintro⟨b,a,f⟩;rcases h.split b with g|⟨e,i,rfl⟩
  ·rw[Ziq (Zam g)]at a;rw[Ziq (Zaj g)]at f;exact⟨g,a,f⟩
  ·rw[nx_hi,Zip (Zam i)]at a;have:=h.hB.rng _ (Zam i);omega
 ·rintro⟨b,a,f⟩;exact⟨by omega,by rw[Ziq (Zam b)];exact a,by rw[Ziq (Zaj b)];exact f⟩
theorem Duo.oppHi(h:Duo n k A B){c:Nat}(hc:c<3*B.length):opp (duo n A B) (3*A.length+c)=(opp B c).map (3*A.length+·):=Zht fun d=>by
 have j:=Zi8 (n:Int) A B;rw[h.hS.opp_iff,nx_hi,pv_hi,Zip (Zam hc),Zip (Zaj hc),Option.map_eq_some_iff];have l:=h.hB.rng _ (Zaj hc);constructor
 ·rintro⟨b,f,g⟩;rcases h.split b with i|⟨e,a,rfl⟩
  ·rw[Ziq (Zam i)]at f;have:=h.hA.rng _ (Zam i);omega
  ·rw[nx_hi,Zip (Zam a)]at f;rw[pv_hi,Zip (Zaj a)]at g;exact⟨e,h.hB.opp_iff.2 ⟨a,by omega,by omega⟩,rfl⟩
 ·rintro⟨e,a,rfl⟩;obtain⟨b,f,g⟩:=h.hB.opp_iff.1 a;refine⟨by omega,?_,?_⟩
  ·rw[nx_hi,Zip (Zam b),f]
  ·rw[pv_hi,Zip (Zaj b),g]
theorem Duo.aftLo(h:Duo n k A B){v:Int}(hv:v<n):aftV (duo n A B) v=aftV A v:=Zht fun a=>by
 have l:=Zi8 (n:Int) A B;rw[h.hS.aftV_iff,h.hA.aftV_iff];constructor
 ·rintro⟨c,b,f,d,g⟩;rcases h.split b with i|⟨e,j,rfl⟩
  ·rw[Ziq (Zaj i)]at d;rw[Ziq (Zam i)]at g;rw[h.oppLo i]at f;exact⟨c,i,f,d,g⟩
  ·rw[pv_hi,Zip (Zaj j)]at d;have:=h.hB.rng _ (Zaj j);omega
 ·rintro⟨c,b,f,d,g⟩;exact⟨c,by omega,by rw[h.oppLo b];exact f,by rw[Ziq (Zaj b)];exact d,by rw[Ziq (Zam b)];exact g⟩
theorem Duo.aftHi(h:Duo n k A B){v a:Int}(hv:0<=v):aftV (duo n A B) (v+n)=some a↔∃b,aftV B v=some b/\a=b+n:=by
 have o:=Zi8 (n:Int) A B;rw[h.hS.aftV_iff];constructor
 ·rintro⟨c,l,f,g,i⟩;rcases h.split l with j|⟨e,d,rfl⟩
  ·rw[Ziq (Zaj j)]at g;have:=h.hA.rng _ (Zaj j);omega
  ·rw[pv_hi,Zip (Zaj d)]at g;rw[nx_hi,Zip (Zam d)]at i;rw[h.oppHi d,Option.map_eq_none_iff]at f;exact⟨_,h.hB.aftV_iff.2 ⟨e,d,f,by omega,rfl⟩,i.symm⟩
 ·rintro⟨b,m,rfl⟩;obtain⟨e,d,f,g,i⟩:=h.hB.aftV_iff.1 m;exact⟨3*A.length+e,by omega,by rw[h.oppHi d,f];rfl,by rw[pv_hi,Zip (Zaj d),g],by rw[nx_hi,Zip (Zam d),i]⟩
theorem Zgw{N:Int}{T:List T3}(hs:Surf N T){v:Nat}{a:Int}(ha:aftV T (v:Int)=some a):v∈Zah T N (v:Int):=hs.loop_self ha
theorem Duo.loopLo(h:Duo n k A B){v:Nat}(hv:v<n)(x:Nat):x∈Zah (duo n A B) ((n+k:Nat):Int) (v:Int)↔x∈Zah A (n:Int) (v:Int):=by
 have e:=h.aftLo (v:=(v:Int)) (by omega);cases b:aftV A (v:Int)with
 | none=>rw[Zcl b,Zcl (e.trans b)]
 | some a =>
  have f:=h.hA.loop_is b;have g:=h.hS.loop_is (e.trans b);constructor
  ·intro i;refine g.closed h.hS (· ∈ Zah A (n:Int) (v:Int)) (fun c d hc hd=>?_) (Zgw h.hS (e.trans b)) (Zgw h.hA b) x i;have j:=f.lt c hc;rw[h.aftLo (by omega)]at hd;exact f.next hc hd
  ·intro i;refine f.closed h.hA (· ∈ Zah (duo n A B) ((n+k:Nat):Int) (v:Int)) (fun c d hc hd=>?_) (Zgw h.hA b) (Zgw h.hS (e.trans b)) x i;have j:=(h.hA.aftV_rng hd).1;exact g.next hc (by rw[h.aftLo (by omega)];exact hd)
theorem Duo.loopHi(h:Duo n k A B)(v x:Nat):x∈Zah (duo n A B) ((n+k:Nat):Int) ((n+v:Nat):Int)↔∃y∈Zah B (k:Int) (v:Int),x=n+y:=by
 have m:((n+v:Nat):Int)=(v:Int)+n:=by omega
 cases e:aftV B (v:Int)with
 | none =>
  have q:aftV (duo n A B) ((n+v:Nat):Int)=none:=by
   cases p:aftV (duo n A B) ((n+v:Nat):Int)with
   | none=>rfl
   | some a =>
    rw[m]at p;obtain⟨b,f,_⟩:=(h.aftHi (by omega)).1 p;rw[e]at f;cases f
  rw[Zcl e,Zcl q];simp
 | some a =>
  have i:=h.hB.loop_is e;have g:aftV (duo n A B) ((n+v:Nat):Int)=some (a+n):=by rw[m];exact(h.aftHi (by omega)).2 ⟨a,e,rfl⟩
  have j:=h.hS.loop_is g;constructor
  ·intro r;refine j.closed h.hS (fun x=>∃y∈Zah B (k:Int) (v:Int),x=n+y) (fun c d hc hd=>?_) (Zgw h.hS g) ⟨v,Zgw h.hB e,rfl⟩ x r;obtain⟨y,l,rfl⟩:=hc;rw[show((n+y:Nat):Int)=(y:Int)+n by omega]at hd;obtain⟨b,f,s⟩:=(h.aftHi (by omega)).1 hd;have o:=(h.hB.aftV_rng f).2;refine⟨b.toNat,i.next l (by rw[f,Int.toNat_of_nonneg o.1]),by omega⟩
  ·rintro⟨y,l,rfl⟩;refine i.closed h.hB (fun y=>n+y∈Zah (duo n A B) ((n+k:Nat):Int) ((n+v:Nat):Int)) (fun c d hc hd=>?_) (Zgw h.hB e) (Zgw h.hS g) y l;refine j.next hc ?_;rw[show((n+c:Nat):Int)=(c:Int)+n by omega,show((n+d:Nat):Int)=(d:Int)+n by omega];exact(h.aftHi (by omega)).2 ⟨_,hd,rfl⟩
theorem Duo.loops(h:Duo n k A B):(lps (duo n A B) ((n+k:Nat):Int) (n+k)).length=(lps A (n:Int) n).length+(lps B (k:Int) k).length /\
  (∀x,x<(lps A (n:Int) n).length->∃L,(lps (duo n A B) ((n+k:Nat):Int) (n+k))[x]? = some L/\∀a∈L,a<n) /\
  ∀y,y<(lps B (k:Int) k).length->∃L,(lps (duo n A B) ((n+k:Nat):Int) (n+k))[(lps A (n:Int) n).length+y]? = some L/\∀a∈L,n<=a:=by
 have i:lps (duo n A B) ((n+k:Nat):Int) (n+k)=((List.range n).filter fun v:Nat=>decide (Zah A (n:Int) (v:Int)≠[]/\∀x∈Zah A (n:Int) (v:Int),v<=x)).map (fun v:Nat=>Zah (duo n A B) ((n+k:Nat):Int) (v:Int)) ++
   ((List.range k).filter fun v:Nat=>decide (Zah B (k:Int) (v:Int)≠[]/\∀x∈Zah B (k:Int) (v:Int),v<=x)).map (fun v:Nat=>Zah (duo n A B) ((n+k:Nat):Int) ((n+v:Nat):Int)):=by
  rw[h.hS.lps_least,List.range_add,List.filter_append,List.map_append,List.filter_map,List.map_map];have l:((List.range n).filter fun v:Nat=>decide (Zah (duo n A B) ((n+k:Nat):Int) (v:Int)≠[]/\∀x∈Zah (duo n A B) ((n+k:Nat):Int) (v:Int),v<=x))=(List.range n).filter fun v:Nat=>decide (Zah A (n:Int) (v:Int)≠[]/\∀x∈Zah A (n:Int) (v:Int),v<=x):=by
   refine List.filter_congr fun v f=>?_
   have f:=zR.1 f;have c:=h.loopLo f;refine decide_eq_decide.2 ⟨fun⟨k1,k2⟩=>⟨fun e=>?_,fun x hx=>k2 x ((c x).2 hx)⟩,fun⟨k1,k2⟩=>⟨fun e=>?_,fun x hx=>k2 x ((c x).1 hx)⟩⟩
   ·refine k1 (List.eq_nil_iff_forall_not_mem.2 fun x hx=>?_);have:=(c x).1 hx;rw[e]at this;cases this
   ·refine k1 (List.eq_nil_iff_forall_not_mem.2 fun x hx=>?_);have:=(c x).2 hx;rw[e]at this;cases this
  have m:(List.range k).filter ((fun v:Nat=>decide (Zah (duo n A B) ((n+k:Nat):Int) (v:Int)≠[]/\∀x∈Zah (duo n A B) ((n+k:Nat):Int) (v:Int),v<=x))∘fun x=>n+x)=(List.range k).filter fun v:Nat=>decide (Zah B (k:Int) (v:Int)≠[]/\∀x∈Zah B (k:Int) (v:Int),v<=x):=by
   refine List.filter_congr fun v f=>?_
   have c:=h.loopHi v;show decide (Zah (duo n A B) ((n+k:Nat):Int) ((n+v:Nat):Int)≠[]/\∀x∈Zah (duo n A B) ((n+k:Nat):Int) ((n+v:Nat):Int),n+v<=x)=_;refine decide_eq_decide.2 ⟨fun⟨k1,k2⟩=>⟨fun e=>?_,fun x hx=>?_⟩,fun⟨k1,k2⟩=>⟨fun e=>?_,fun x hx=>?_⟩⟩
   ·refine k1 (List.eq_nil_iff_forall_not_mem.2 fun x hx=>?_);obtain⟨y,d,_⟩:=(c x).1 hx;rw[e]at d;cases d
   ·have:=k2 (n+x) ((c _).2 ⟨x,hx,rfl⟩);omega
   ·refine k1 (List.eq_nil_iff_forall_not_mem.2 fun x hx=>?_);have:=(c (n+x)).2 ⟨x,hx,rfl⟩;rw[e]at this;cases this
   ·obtain⟨y,d,rfl⟩:=(c x).1 hx;have:=k2 y d;omega
  rw[l,m];rfl
 have g:(lps A (n:Int) n).length=((List.range n).filter fun v:Nat=>decide (Zah A (n:Int) (v:Int)≠[]/\∀x∈Zah A (n:Int) (v:Int),v<=x)).length:=by rw[h.hA.lps_least,zL]
 have j:(lps B (k:Int) k).length=((List.range k).filter fun v:Nat=>decide (Zah B (k:Int) (v:Int)≠[]/\∀x∈Zah B (k:Int) (v:Int),v<=x)).length:=by rw[h.hB.lps_least,zL]
 refine⟨by rw[i,zA,zL,zL,g,j],fun x hx=>?_,fun y d=>?_⟩
 ·rw[g]at hx;refine⟨_,by rw[i,List.getElem?_append_left (by rw[zL];exact hx),zJ,zG hx];rfl,fun a ha=>?_⟩;have f:=zR.1 (zQ.1 (zM hx)).1;have c:=(h.loopLo f a).1 ha;obtain⟨⟨b,o⟩,_⟩:=h.hA.loop_mem_on c;have:=(h.hA.loop_is o).lt a c;omega
 ·rw[j]at d;refine⟨_,by rw[i,List.getElem?_append_right (by rw[zL,g];omega),zL,g,Nat.add_sub_cancel_left,zJ,zG d];rfl,fun a ha=>?_⟩;obtain⟨z,_,rfl⟩:=(h.loopHi _ a).1 ha;omega
theorem Duo.conLo(h:Duo n k A B){x y:Nat}(hc:Con A x y):Con (duo n A B) x y:=by
 refine Con.closed h.hA (fun y=>Con (duo n A B) x y) (fun y z hy hb=>?_) hc (Con.refl x);obtain⟨i,hi,a⟩:=besd_iff.1 hb;unfold nb at a;obtain⟨d,b,rfl⟩:=Option.map_eq_some_iff.1 a;have c:=h.hA.opp_lt b;have:=Zh1 h.hS ((h.oppLo c).trans b);rw[show(3*y+i)/3=y by omega]at this;exact hy.step h.hS this
theorem Duo.conHi(h:Duo n k A B){x y:Nat}(hc:Con B x y):Con (duo n A B) (A.length+x) (A.length+y):=by
 refine Con.closed h.hB (fun y=>Con (duo n A B) (A.length+x) (A.length+y)) (fun y z hy hb=>?_) hc (Con.refl _);obtain⟨i,hi,a⟩:=besd_iff.1 hb;unfold nb at a;obtain⟨d,b,rfl⟩:=Option.map_eq_some_iff.1 a;have e:=h.hB.opp_lt b;have:=Zh1 h.hS (c:=3*A.length+(3*y+i)) (d:=3*A.length+d) (by rw[h.oppHi e,b];rfl);rw[show(3*A.length+(3*y+i))/3=A.length+y by omega,show(3*A.length+d)/3=A.length+d/3 by omega]at this;exact hy.step h.hS this
theorem Duo.bordC(h:Duo n k A B):Go.Mesh.bordC (duo n A B)=Go.Mesh.bordC A+Go.Mesh.bordC B:=by
 unfold Go.Mesh.bordC;rw[Zi8,Nat.mul_add,List.range_add,List.countP_append,List.countP_map];refine congr (congrArg _ ?_) ?_
 ·refine List.countP_congr fun c hc=>?_
  rw[h.oppLo (zR.1 hc)]
 ·refine List.countP_congr fun c hc=>?_
  show decide (opp (duo n A B) (3*A.length+c)=none)=true↔_;rw[h.oppHi (zR.1 hc),decide_eq_true_eq,decide_eq_true_eq,Option.map_eq_none_iff]
end
section
variable {N : Int} {T : List T3} {ox : List Int} {C : Nat}
theorem bordC_bedges(T:List T3):bordC T=(bedges T).length:=by
 unfold bordC bedges bord;rw[zL,<- List.countP_eq_length_filter];refine List.countP_congr fun c _=>?_
 cases opp T c<;>simp
theorem Zvl(hs:Surf N T)(h:Pt T ox C T.length):C=1↔0<T.length/\∀x y,x<T.length->y<T.length->Con T x y:=by
 constructor
 ·rintro rfl;have e:=h.np;refine⟨by omega,fun x y hx hy=>?_⟩;obtain⟨f,_,c⟩:=Zlg h hx;obtain⟨g,_,d⟩:=Zlg h hy;rw[show shN ox x=0 by omega]at c;rw[show shN ox y=0 by omega]at d;exact(c.symm hs).trans hs d
 ·rintro⟨e,b⟩;have i:=(Zlg h e).1;have j:=h.np;rcases(by omega:C=1\/1<C)with a|a
  ·exact a
  ·exact absurd (b _ _ (hs.sd_lt (by omega)) (hs.sd_lt (by omega))) (h.apart 0 1 (by omega) a)
theorem sumI_one(f:Nat->Int):sumI f 1=f 0:=by
 rw[Zdc];have:sumI f 0=0:=rfl;omega
theorem Zvk(hs:Surf N T)(h:Pt T ox 1 T.length):4*sumI (fun s=>gG N T ox s) 1=4-2*((lps T N N.toNat).length:Int)-(2*N-(3*(T.length:Int)+bordC T)+2*T.length):=by
 have a:=sumI_gU hs h;have c:=Zwc hs h;have f:=hs.even;have i:=hs.iE_count;have j:=bordC_bedges T;have k:=hs.n0;rw[sumI_one]at a ⊢;have d:cB T ox (lps T N N.toNat) 0=(lps T N N.toNat).length:=by
  rw[Zd2]at c;have:sumN (fun s=>cB T ox (lps T N N.toNat) s) 0=0:=rfl;omega
 unfold gG;rw[d];generalize gU N T ox 0=U at *;generalize (lps T N N.toNat).length=b at *;obtain⟨g,e⟩:∃g:Int,(2:Int)-(b:Int)-U=2*g:=⟨((2:Int)-(b:Int)-U)/2,by omega⟩;rw[e,Int.mul_tdiv_cancel_left _ (by omega)];omega
end
section
variable {n k m : Nat} {A B Y : List T3} {p q : List Nat} {t : Int}
theorem Duo.joined(h:Duo n k A B)(h2:Two ((n+k:Nat):Int) (duo n A B) p q)(hY:Y=sewT (labE (edP (Za4 p q t))) (duo n A B))(hm:m=Go.Mesh.rnk (labE (edP (Za4 p q t))) (n+k))(hs:Surf (m:Int) Y)
  {i j:Nat} (hi:(lps (duo n A B) ((n+k:Nat):Int) (n+k))[i]? = some p) (hj:(lps (duo n A B) ((n+k:Nat):Int) (n+k))[j]? = some q) (hij:i≠j) (hp:∀a∈p,a<n) (hq:∀a∈q,n<=a)
  {oA oB oY:List Int} {CY:Nat} (hA:Pt A oA 1 A.length) (hB:Pt B oB 1 B.length) (hPY:Pt Y oY CY Y.length) :
  CY=1/\(lps Y (m:Int) m).length+2=(lps A (n:Int) n).length+(lps B (k:Int) k).length/\sumI (fun s=>gG (m:Int) Y oY s) CY=sumI (fun s=>gG (n:Int) A oA s) 1+sumI (fun s=>gG (k:Int) B oB s) 1:=by
 have O:Y.length=A.length+B.length:=by rw[hY,Zdb,Zi8]
 have I:=Zi8 (n:Int) A B;have v:=h2.loops hY hs (i:=i) (j:=j) (by rw[zC];exact hi) (by rw[zC];exact hj) hij;rw[zC,h.loops.1]at v;obtain⟨J,o⟩:=(Zvl h.hA hA).1 rfl;obtain⟨K,ball⟩:=(Zvl h.hB hB).1 rfl;have u:CY=1:=by
  refine(Zvl hs hPY).2 ⟨by omega,?_⟩;obtain⟨c,d,F,G,g,l,z⟩:=h2.bridge hY hs;have N:c<3*A.length:=by
   rcases h.split F with b|⟨e,r,rfl⟩
   ·exact b
   ·rw[pv_hi,Zip (Zaj r)]at g;have:=hp _ g;have:=h.hB.rng _ (Zaj r);omega
  obtain⟨e,r,rfl⟩:∃e,e<3*B.length/\d=3*A.length+e:=by
   rcases h.split G with b|b
   ·rw[Ziq (Zaj b)]at l;have:=hq _ l;have:=h.hA.rng _ (Zaj b);omega
   ·exact b
  have f:∀x,x<Y.length->Con Y (c/3) x:=fun x hx=>by
   rcases zK x A.length with b|b
   ·exact h2.con hY hs (h.conLo (o _ _ (by omega) b))
   ·have w:=h2.con hY hs (h.conHi (ball (e/3) (x-A.length) (by omega) (by omega)));rw[show A.length+(x-A.length)=x by omega,show A.length+e/3=(3*A.length+e)/3 by omega]at w;exact z.trans hs w
  exact fun x y hx hy=>((f x hx).symm hs).trans hs (f y hy)
 refine⟨u,v,?_⟩;subst u;have C:=Zvk h.hA hA;have D:=Zvk h.hB hB;have E:=Zvk hs hPY;have L:=h2.bordC hY hs;have M:=h.bordC;have H:=h2.rnk (t:=t);rw[zC]at H;rw[zC]at C D E;omega
end
end Go.Mesh
namespace Go.Proofs.YtpbdcppaiafbgaaGreat
open Go Go.RowKit Go.Words Go.Mesh
theorem Zen{w:World}{B cap:Nat}{A:Option Addr}{l:List T3}(h:Sl 3 RTri w B (.slice A l.length cap) l):(A=none->l.length=0)/\∀ad,A=some ad->∀j u,(Zal l)[j]? = some u->w.cell? (ad.add j)=some u:=by
 refine⟨fun e=>?_,fun ad e j u hj=>?_⟩
 ·subst e;rcases Nat.eq_zero_or_pos l.length with c|c
  ·exact c
  ·obtain⟨b,o,d,_⟩:=h.tri_at c;cases d
 ·obtain⟨p,rfl⟩:=Zo3 l j u hj;have f:j/3<l.length:=by omega
  obtain⟨b,o,d,_,g,i,k⟩:=h.tri_at f;rw[d]at e;injection e with e;subst e;have m:Mesh.vt l j=vx l[j/3] (j%3):=by
   unfold Mesh.vt;rw[zD,zG f];rfl
  rw[m,Addr.add_lit];have n:j=j/3*3+j%3:=by omega
  have a:j%3=0\/j%3=1\/j%3=2:=by omega
  rcases a with a|a|a
  ·rw[a,show o+j=o+j/3*3 by omega];exact g
  ·rw[a,show o+j=o+j/3*3+1 by omega];exact i
  ·rw[a,show o+j=o+j/3*3+2 by omega];exact k
theorem flat3_app(l m:List T3):Zal (l++m)=Zal l++Zal m:=by unfold Zal;rw[List.flatMap_append]
theorem own_kinds{w:World}{b1 b2 s1 s2 n1 n2:Nat}{e1 e2:TypeId}{v1 v2:Value}{x1 x2:List Value}(h1:w.ownsRow b1 e1 s1 v1 n1 x1)(h2:w.ownsRow b2 e2 s2 v2 n2 x2)(hne:e1≠e2):v1.ownBlock=none\/v1.ownBlock≠v2.ownBlock:=by
 rcases h1.2 with⟨rfl,_⟩|⟨f,c,h,rfl,_,b,_⟩
 ·exact .inl rfl
 ·refine .inr fun e=>?_
  rcases h2.2 with⟨rfl,_⟩|⟨g,d,i,rfl,_,a,_⟩
  ·cases e
  ·simp[Value.ownBlock]at e;subst e;rw[b]at a;injection a with a;injection a with _ a;exact hne a
def Zti(w0:World)(M m:Int)(PQ:List T3)(s:Value)(wx:World):Prop :=
 ∃(g:Nat) (A:Option Addr) (c:Nat),s=.pointer (some ⟨g,0,none⟩)/\w0.heap.size<=g/\Bk wx g 67 [.int .i64 (M+m),.slice none 0 0,.slice A PQ.length c,.slice none 0 0] /\
  wx.ownsRow w0.heap.size 74 3 (.slice A PQ.length c) PQ.length (Zal PQ)/\(Value.slice A PQ.length c).ownBlock≠some g/\Below w0.heap.size w0 wx
theorem two45_calls{w:World}{B:Nat}{sa pa sb pb:Value}{Ak Bk':Option Addr}{la ca lb cb:Nat}{n k:Nat}{TA TB P Q:List T3}(hB0:B<=w.heap.size)(hA:Sl 3 RTri w B sa TA)(hP:Sl 3 RTri w B pa P)(hB:Sl 3 RTri w B sb TB)(hQ:Sl 3 RTri w B pb Q)(hn:n<=10000)(hk:k<=10000)
  (hAl:TA.length<=10000) (hBl:TB.length<=10000) (hPl:P.length<=10000) (hQl:Q.length<=10000) (hr:∀i (hi:i<TB.length),(-1000000<=TB[i].1/\TB[i].1<=1000000)/\(-1000000<=TB[i].2.1/\TB[i].2.1<=1000000) /\ -1000000<=TB[i].2.2/\TB[i].2.2<=1000000) :
  Calls Tryz.prog 52 #[.agg #[.int .i64 (n:Int),sa,pa,.slice Ak la ca],.agg #[.int .i64 (k:Int),sb,pb,.slice Bk' lb cb]] w fun e w'=>(∃sv pv,e=.returned (.agg #[.int .i64 ((n:Int)+(k:Int)),sv,pv,.slice none 0 0])/\Sl 3 RTri w' w'.heap.size sv (duo (n:Int) TA TB)/\Sl 3 RTri w' w'.heap.size pv (P++Q))/\Below w.heap.size w w':=by
 obtain⟨A1,c1,rfl,j7⟩:=hA.form;obtain⟨A2,c2,rfl,j8⟩:=hP.form;obtain⟨A3,c3,rfl,j9⟩:=hB.form;obtain⟨A4,c4,rfl,ja⟩:=hQ.form;obtain⟨R,hR⟩:∃R,P++Q=R:=⟨_,rfl⟩;rw[hR];obtain⟨d,ap⟩:∃d,((w.alloc (.cells #[.int .i64 (n:Int),.slice A1 TA.length c1,.slice A2 P.length c2,.slice Ak la ca] 67)).alloc (.cells #[.int .i64 (k:Int),.slice A3 TB.length c3,.slice A4 Q.length c4,.slice Bk' lb cb] 67)).alloc (.cells #[.int .i64 0,.slice none 0 0,.slice none 0 0,.slice none 0 0] 67)=d:=⟨_,rfl⟩;have aw:Below w.heap.size w d:=by rw[<- ap];exact(((zr w.heap.size w).alloc zl _).alloc (by simp) _).alloc (by simp;omega) _
 have bs:Bk d w.heap.size 67 [.int .i64 (n:Int),.slice A1 TA.length c1,.slice A2 P.length c2,.slice Ak la ca]:=by rw[<- ap];exact((Bk.new w _ _).alloc _).alloc _
 have q:Bk d (w.heap.size+1) 67 [.int .i64 (k:Int),.slice A3 TB.length c3,.slice A4 Q.length c4,.slice Bk' lb cb]:=by rw[<- ap];exact(Bk.new' (n:=w.heap.size+1) (w:=w.alloc (.cells #[.int .i64 (n:Int),.slice A1 TA.length c1,.slice A2 P.length c2,.slice Ak la ca] 67)) _ _ (by simp)).alloc _
 have g2:Bk d (w.heap.size+2) 67 [.int .i64 0,.slice none 0 0,.slice none 0 0,.slice none 0 0]:=by rw[<- ap];exact Bk.new' (n:=w.heap.size+2) (w:=(w.alloc (.cells #[.int .i64 (n:Int),.slice A1 TA.length c1,.slice A2 P.length c2,.slice Ak la ca] 67)).alloc (.cells #[.int .i64 (k:Int),.slice A3 TB.length c3,.slice A4 Q.length c4,.slice Bk' lb cb] 67)) _ _ (by simp)
 have jc:d.heap.size=w.heap.size+3:=by rw[<- ap];simp
 have fm:=hA.below zaaq (aw.mono hB0);have fo:=hP.below zaaq (aw.mono hB0);have dt:=hB.below zaaq (aw.mono hB0);have fq:=hQ.below zaaq (aw.mono hB0);have a0:d.cell? ⟨w.heap.size,0,none⟩=some (.int .i64 (n:Int)):=bs.cell 0;have a1:d.cell? ⟨w.heap.size,1,none⟩=some (.slice A1 TA.length c1):=bs.cell 1;have a2:d.cell? ⟨w.heap.size,2,none⟩=some (.slice A2 P.length c2):=bs.cell 2;have b0:d.cell? ⟨w.heap.size+1,0,none⟩=some (.int .i64 (k:Int)):=q.cell 0;have b1:d.cell? ⟨w.heap.size+1,1,none⟩=some (.slice A3 TB.length c3):=q.cell 1;have b2:d.cell? ⟨w.heap.size+1,2,none⟩=some (.slice A4 Q.length c4):=q.cell 2;obtain⟨it,iw,iu,ix,ge,gf,f6,gg,de,df,gl,h4⟩:=zz12 hA hP hB hQ fm fo dt fq bs q g2 hr;clear hA hP hB hQ fm fo dt fq bs q g2 hr;go_enter Tryz.func52,Tryz.ntmps52;go_upto_region 1 with fail;all_goals try omega
 try rw[ap]
 clear ap;have e8:Zal P++Zal Q=Zal R:=by rw[<- hR];unfold Zal;rw[List.flatMap_append]
 have e9:P.length+Q.length=R.length:=by rw[<- hR];exact(zA ..).symm
 have j6:R.length<=20000:=by omega
 obtain⟨iy,ac,v⟩:=zz3 hR e8 e9;clear hR e8 e9;go_cut [5] (fun s5 wx=>Zti d (n:Int) (k:Int) R s5 wx)
 case first =>
  have am:=(zr d.heap.size d).drew;have fp:=gf.out.below zaaq (am.mono (show B<=d.heap.size by omega));have fr:=gg.out.below zaaq (am.mono (show B<=d.heap.size by omega));have cn:d.drew.cell? ⟨w.heap.size,0,none⟩=some (.int .i64 (n:Int)):=a0;have co:d.drew.cell? ⟨w.heap.size,2,none⟩=some (.slice A2 P.length c2):=a2;have cp:d.drew.cell? ⟨w.heap.size+1,0,none⟩=some (.int .i64 (k:Int)):=b0;have cq:d.drew.cell? ⟨w.heap.size+1,2,none⟩=some (.slice A4 Q.length c4):=b2;have jb:=am.size;clear a0 a1 a2 b0 b1 b2;obtain⟨bt,b3⟩:=zz2 fp fr;clear fp fr;go_wp2_with fail;refine Canon.wp_region_tree [2,5,10,13] (fun b9=>b9=w.heap.size\/b9=w.heap.size+1) (.seg [0,1,2,3,4,5,6,7,9,10,12,13] (.alt 8 (.alt 11 (.alt 14 (.seg [15] (.alt 16 (.alt 17 .fin .no) .no)) (.alt 16 (.alt 14 (.seg [15] (.alt 17 .fin .no)) .no) .no)) (.alt 16 (.alt 11 (.alt 14 (.seg [15] (.alt 17 .fin .no)) .no) .no) .no)) (.alt 16 (.alt 8 (.alt 11 (.alt 14 (.seg [15] (.alt 17 .fin .no)) .no) .no) .no) .no))) mixed (by kernel_rfl) ?_;generalize d.drew=m at *;refine Canon.tr_seg ?_;simp only[zm,zg];go_wp2_with fail;all_goals try omega
  have av:=zr m.heap.size m;refine Canon.tr_to (Canon.tr_alt ?_ (Canon.tr_one ?_))
  ·simp only[zg];go_wp2_with fail;have hb:=(zr m.heap.size m).alloc zl (.cells #[] 74);have ex:=World.ownsRow_made (base:=m.heap.size) (e:=74) (size:=3) m #[] 0 av.size (Nat.zero_le _) rfl;generalize m.alloc (.cells #[] 74)=W1 at *;have aj:=av.trans (hb.mono av.size);refine Canon.tr_end (fun b9 h9=>aj.block b9 (by rcases h9 with rfl|rfl<;>omega)) (Canon.tr_alt ?_ (Canon.tr_one ?_))
   ·simp only[zg];obtain⟨gb,g7⟩:=Zen (bt.out.below zaaq (aj.mono (show B<=m.heap.size by omega)));refine zasq rfl (.tmp 16) (.tmp 18) 65 rfl m.heap.size Tryz.underlying65 Zo8 rfl (by decide) _ 0 [] rfl ex A2 P.length c2 (Zal P) rfl (Za2 P) gb g7 (Zdw P) (by omega) (by decide) aj.size ?_;intro v2 W2 r bv ai _;rw[Nat.zero_add,List.nil_append]at r;obtain⟨B2,d2,rfl,_⟩:=zaeq r
    try rw[Nat.zero_add]
    have ak:=aj.trans ai;clear gb g7 bv ai;go_wp2_with fail;all_goals try omega
    refine Canon.tr_end (fun b9 h9=>ak.block b9 (by rcases h9 with rfl|rfl<;>omega)) (Canon.tr_alt ?_ (Canon.tr_one ?_))
    ·simp only[zg];obtain⟨gc,g9⟩:=Zen (b3.out.below zaaq (ak.mono (show B<=m.heap.size by omega)));refine zasq rfl (.tmp 19) (.tmp 21) 65 rfl m.heap.size Tryz.underlying65 Zo8 rfl (by decide) _ P.length (Zal P) rfl r A4 Q.length c4 (Zal Q) rfl (Za2 Q) gc g9 (Zdw Q) (by omega) (by decide) ak.size ?_;intro v3 W3 V h2 fk _;rw[ac.out,v.out]at V;obtain⟨B3,d3,rfl,_⟩:=zaeq V
     try rw[v.out]
     have ct:=ak.trans fk;clear gc g9 h2 fk;go_wp2_with fail;all_goals try omega
     refine Canon.tr_end (fun b9 h9=>ct.block b9 (by rcases h9 with rfl|rfl<;>omega)) (Canon.tr_seg ?_);simp only[zm,zg];go_wp2_with fail;refine Canon.tr_to (Canon.tr_one ?_);simp only[zg];go_wp2_with fail;have hc:=(zr W3.heap.size W3).alloc zl (.cells #[.int .i64 0,.slice none 0 0,.slice none 0 0,.slice none 0 0] 67);have ey:=V.alloc (.cells #[.int .i64 0,.slice none 0 0,.slice none 0 0,.slice none 0 0] 67);have a8:=Bk.new W3 67 [.int .i64 0,.slice none 0 0,.slice none 0 0,.slice none 0 0];obtain⟨b,t⟩:∃b,W3.heap.size=b:=⟨_,rfl⟩;have f:m.heap.size<=b:=by rw[<- t];exact ct.size
     rw[t]at a8;generalize W3.alloc (.cells #[.int .i64 0,.slice none 0 0,.slice none 0 0,.slice none 0 0] 67)=W4 at *;have fu:=ct.trans (hc.mono ct.size);rw[t];refine Canon.tr_end (fun b9 h9=>fu.block b9 (by rcases h9 with rfl|rfl<;>omega)) (Canon.tr_one ?_);simp only[zg];have s0:W4.cell? ⟨b,0,none⟩=some (.int .i64 0):=a8.cell 0;have s1:W4.cell? ⟨b,1,none⟩=some (.slice none 0 0):=a8.cell 1;have s2:W4.cell? ⟨b,2,none⟩=some (.slice none 0 0):=a8.cell 2;have s3:W4.cell? ⟨b,3,none⟩=some (.slice none 0 0):=a8.cell 3;have sf:=a8.frozen;have q:=((((a8.set 0 (.int .i64 ((n:Int)+(k:Int)))).set 1 (.slice none 0 0)).set 2 (.slice B3 R.length d3)).set 3 (.slice none 0 0));have C:=((((fu.setCell (p:=⟨b,0,none⟩) f (.int .i64 ((n:Int)+(k:Int)))).setCell (p:=⟨b,1,none⟩) f (.slice none 0 0)).setCell (p:=⟨b,2,none⟩) f (.slice B3 R.length d3)).setCell (p:=⟨b,3,none⟩) f (.slice none 0 0));have c:=Zdq ey a8 (by decide);have G:=ey.kept (Zar W4 b 0 (.int .i64 ((n:Int)+(k:Int)))) c;have H:=G.kept (Zar ((W4.setCell ⟨b,0,none⟩ (.int .i64 ((n:Int)+(k:Int))))) b 1 (.slice none 0 0)) c;have I:=H.kept (Zar (((W4.setCell ⟨b,0,none⟩ (.int .i64 ((n:Int)+(k:Int)))).setCell ⟨b,1,none⟩ (.slice none 0 0))) b 2 (.slice B3 R.length d3)) c;have J:=I.kept (Zar ((((W4.setCell ⟨b,0,none⟩ (.int .i64 ((n:Int)+(k:Int)))).setCell ⟨b,1,none⟩ (.slice none 0 0)).setCell ⟨b,2,none⟩ (.slice B3 R.length d3))) b 3 (.slice none 0 0)) c;have o:Zti d (n:Int) (k:Int) R (.pointer (some ⟨b,0,none⟩)) _:=⟨b,_,_,rfl,by omega,q,Zol (show d.heap.size<=m.heap.size by omega) J,(c.elim (fun h=>by rw[h];exact fun e=>by cases e) id),am.trans (C.mono (by omega))⟩;clear q G H I J;have s:=zz o;clear o;have F:∀b9,(b9=w.heap.size\/b9=w.heap.size+1)->_:=fun b9 h9=>C.block b9 (by rcases h9 with rfl|rfl<;>omega)
     have M:=zz F;clear F;go_wp2_with fail;refine Canon.tr_end (fun b9 h9=>M.out b9 h9) (Canon.tr_fin (by rfl) (zF ⟨.inl ⟨_,rfl,.inl rfl,by rw[cn];rfl⟩,zF ⟨.inl ⟨_,rfl,.inr rfl,by rw[cp];rfl⟩,zF ⟨.inl ⟨_,rfl,.inl rfl,by rw[co];rfl⟩,zF ⟨.inl ⟨_,rfl,.inr rfl,by rw[cq];rfl⟩,fun _ h=>by cases h⟩⟩⟩⟩) ?_);go_wp2_with fail;go_meet;exact s.out
    ·simp only[zg];go_wp2_with fail;have hd:=(zr W2.heap.size W2).alloc zl (.cells #[.int .i64 0,.slice none 0 0,.slice none 0 0,.slice none 0 0] 67);have ez:=r.alloc (.cells #[.int .i64 0,.slice none 0 0,.slice none 0 0,.slice none 0 0] 67);have en:=Bk.new W2 67 [.int .i64 0,.slice none 0 0,.slice none 0 0,.slice none 0 0];obtain⟨b,t⟩:∃b,W2.heap.size=b:=⟨_,rfl⟩;have f:m.heap.size<=b:=by rw[<- t];exact ak.size
     rw[t]at en;generalize W2.alloc (.cells #[.int .i64 0,.slice none 0 0,.slice none 0 0,.slice none 0 0] 67)=W6 at *;have cu:=ak.trans (hd.mono ak.size);rw[t];refine Canon.tr_end (fun b9 h9=>cu.block b9 (by rcases h9 with rfl|rfl<;>omega)) (Canon.tr_one ?_);simp only[zg];obtain⟨gd,ga⟩:=Zen (b3.out.below zaaq (cu.mono (show B<=m.heap.size by omega)));refine zasq rfl (.tmp 19) (.tmp 21) 65 rfl m.heap.size Tryz.underlying65 Zo8 rfl (by decide) _ P.length (Zal P) rfl ez A4 Q.length c4 (Zal Q) rfl (Za2 Q) gd ga (Zdw Q) (by omega) (by decide) cu.size ?_;intro v7 W7 bi dy fl _;rw[ac.out,v.out]at bi;obtain⟨B7,d7,rfl,_⟩:=zaeq bi
     try rw[v.out]
     have fv:=cu.trans fl;have Y:=en.grown dy (fun e=>(Zdq ez en (by decide)).elim (fun h=>by have Z:=e.trans h;cases Z) fun h=>h e.symm);clear gd ga dy fl;go_wp2_with fail;all_goals try omega
     refine Canon.tr_end (fun b9 h9=>fv.block b9 (by rcases h9 with rfl|rfl<;>omega)) (Canon.tr_seg ?_);simp only[zm,zg];go_wp2_with fail;refine Canon.tr_to (Canon.tr_one ?_);simp only[zg];have s0:W7.cell? ⟨b,0,none⟩=some (.int .i64 0):=Y.cell 0;have s1:W7.cell? ⟨b,1,none⟩=some (.slice none 0 0):=Y.cell 1;have s2:W7.cell? ⟨b,2,none⟩=some (.slice none 0 0):=Y.cell 2;have s3:W7.cell? ⟨b,3,none⟩=some (.slice none 0 0):=Y.cell 3;have sf:=Y.frozen;have q:=((((Y.set 0 (.int .i64 ((n:Int)+(k:Int)))).set 1 (.slice none 0 0)).set 2 (.slice B7 R.length d7)).set 3 (.slice none 0 0));have C:=((((fv.setCell (p:=⟨b,0,none⟩) f (.int .i64 ((n:Int)+(k:Int)))).setCell (p:=⟨b,1,none⟩) f (.slice none 0 0)).setCell (p:=⟨b,2,none⟩) f (.slice B7 R.length d7)).setCell (p:=⟨b,3,none⟩) f (.slice none 0 0));have c:=Zdq bi Y (by decide);have G:=bi.kept (Zar W7 b 0 (.int .i64 ((n:Int)+(k:Int)))) c;have H:=G.kept (Zar ((W7.setCell ⟨b,0,none⟩ (.int .i64 ((n:Int)+(k:Int))))) b 1 (.slice none 0 0)) c;have I:=H.kept (Zar (((W7.setCell ⟨b,0,none⟩ (.int .i64 ((n:Int)+(k:Int)))).setCell ⟨b,1,none⟩ (.slice none 0 0))) b 2 (.slice B7 R.length d7)) c;have J:=I.kept (Zar ((((W7.setCell ⟨b,0,none⟩ (.int .i64 ((n:Int)+(k:Int)))).setCell ⟨b,1,none⟩ (.slice none 0 0)).setCell ⟨b,2,none⟩ (.slice B7 R.length d7))) b 3 (.slice none 0 0)) c;have o:Zti d (n:Int) (k:Int) R (.pointer (some ⟨b,0,none⟩)) _:=⟨b,_,_,rfl,by omega,q,Zol (show d.heap.size<=m.heap.size by omega) J,(c.elim (fun h=>by rw[h];exact fun e=>by cases e) id),am.trans (C.mono (by omega))⟩;clear q G H I J;have s:=zz o;clear o;have F:∀b9,(b9=w.heap.size\/b9=w.heap.size+1)->_:=fun b9 h9=>C.block b9 (by rcases h9 with rfl|rfl<;>omega)
     have M:=zz F;clear F;go_wp2_with fail;refine Canon.tr_end (fun b9 h9=>M.out b9 h9) (Canon.tr_fin (by rfl) (zF ⟨.inl ⟨_,rfl,.inl rfl,by rw[cn];rfl⟩,zF ⟨.inl ⟨_,rfl,.inr rfl,by rw[cp];rfl⟩,zF ⟨.inl ⟨_,rfl,.inl rfl,by rw[co];rfl⟩,zF ⟨.inl ⟨_,rfl,.inr rfl,by rw[cq];rfl⟩,fun _ h=>by cases h⟩⟩⟩⟩) ?_);go_wp2_with fail;go_meet;exact s.out
   ·simp only[zg];go_wp2_with fail;have hf:=(zr W1.heap.size W1).alloc zl (.cells #[.int .i64 0,.slice none 0 0,.slice none 0 0,.slice none 0 0] 67);have f0:=ex.alloc (.cells #[.int .i64 0,.slice none 0 0,.slice none 0 0,.slice none 0 0] 67);have ay:=Bk.new W1 67 [.int .i64 0,.slice none 0 0,.slice none 0 0,.slice none 0 0];obtain⟨b,t⟩:∃b,W1.heap.size=b:=⟨_,rfl⟩;have f:m.heap.size<=b:=by rw[<- t];exact aj.size
    rw[t]at ay;generalize W1.alloc (.cells #[.int .i64 0,.slice none 0 0,.slice none 0 0,.slice none 0 0] 67)=W9 at *;have cv:=aj.trans (hf.mono aj.size);rw[t];refine Canon.tr_end (fun b9 h9=>cv.block b9 (by rcases h9 with rfl|rfl<;>omega)) (Canon.tr_one ?_);simp only[zg];obtain⟨et,eo⟩:=Zen (bt.out.below zaaq (cv.mono (show B<=m.heap.size by omega)));refine zasq rfl (.tmp 16) (.tmp 18) 65 rfl m.heap.size Tryz.underlying65 Zo8 rfl (by decide) _ 0 [] rfl f0 A2 P.length c2 (Zal P) rfl (Za2 P) et eo (Zdw P) (by omega) (by decide) cv.size ?_;intro jh iz ae cw dl _;rw[Nat.zero_add,List.nil_append]at ae;obtain⟨ip,j2,rfl,_⟩:=zaeq ae
    try rw[Nat.zero_add]
    have b6:=cv.trans dl;have ei:=ay.grown cw (fun e=>(Zdq f0 ay (by decide)).elim (fun h=>by have Z:=e.trans h;cases Z) fun h=>h e.symm);clear et eo cw dl;go_wp2_with fail;all_goals try omega
    refine Canon.tr_end (fun b9 h9=>b6.block b9 (by rcases h9 with rfl|rfl<;>omega)) (Canon.tr_one ?_);simp only[zg];obtain⟨eu,ep⟩:=Zen (b3.out.below zaaq (b6.mono (show B<=m.heap.size by omega)));refine zasq rfl (.tmp 19) (.tmp 21) 65 rfl m.heap.size Tryz.underlying65 Zo8 rfl (by decide) _ P.length (Zal P) rfl ae A4 Q.length c4 (Zal Q) rfl (Za2 Q) eu ep (Zdw Q) (by omega) (by decide) b6.size ?_;intro ji a5 af cx dm _;rw[ac.out,v.out]at af;obtain⟨cg,cr,rfl,_⟩:=zaeq af
    try rw[v.out]
    have dw:=b6.trans dm;have S:=ei.grown cx (fun e=>(Zdq ae ei (by decide)).elim (fun h=>by have Z:=e.trans h;cases Z) fun h=>h e.symm);clear eu ep cx dm;go_wp2_with fail;all_goals try omega
    refine Canon.tr_end (fun b9 h9=>dw.block b9 (by rcases h9 with rfl|rfl<;>omega)) (Canon.tr_seg ?_);simp only[zm,zg];go_wp2_with fail;refine Canon.tr_to (Canon.tr_one ?_);simp only[zg];have s0:a5.cell? ⟨b,0,none⟩=some (.int .i64 0):=S.cell 0;have s1:a5.cell? ⟨b,1,none⟩=some (.slice none 0 0):=S.cell 1;have s2:a5.cell? ⟨b,2,none⟩=some (.slice none 0 0):=S.cell 2;have s3:a5.cell? ⟨b,3,none⟩=some (.slice none 0 0):=S.cell 3;have sf:=S.frozen;have q:=((((S.set 0 (.int .i64 ((n:Int)+(k:Int)))).set 1 (.slice none 0 0)).set 2 (.slice cg R.length cr)).set 3 (.slice none 0 0));have C:=((((dw.setCell (p:=⟨b,0,none⟩) f (.int .i64 ((n:Int)+(k:Int)))).setCell (p:=⟨b,1,none⟩) f (.slice none 0 0)).setCell (p:=⟨b,2,none⟩) f (.slice cg R.length cr)).setCell (p:=⟨b,3,none⟩) f (.slice none 0 0));have c:=Zdq af S (by decide);have G:=af.kept (Zar a5 b 0 (.int .i64 ((n:Int)+(k:Int)))) c;have H:=G.kept (Zar ((a5.setCell ⟨b,0,none⟩ (.int .i64 ((n:Int)+(k:Int))))) b 1 (.slice none 0 0)) c;have I:=H.kept (Zar (((a5.setCell ⟨b,0,none⟩ (.int .i64 ((n:Int)+(k:Int)))).setCell ⟨b,1,none⟩ (.slice none 0 0))) b 2 (.slice cg R.length cr)) c;have J:=I.kept (Zar ((((a5.setCell ⟨b,0,none⟩ (.int .i64 ((n:Int)+(k:Int)))).setCell ⟨b,1,none⟩ (.slice none 0 0)).setCell ⟨b,2,none⟩ (.slice cg R.length cr))) b 3 (.slice none 0 0)) c;have o:Zti d (n:Int) (k:Int) R (.pointer (some ⟨b,0,none⟩)) _:=⟨b,_,_,rfl,by omega,q,Zol (show d.heap.size<=m.heap.size by omega) J,(c.elim (fun h=>by rw[h];exact fun e=>by cases e) id),am.trans (C.mono (by omega))⟩;clear q G H I J;have s:=zz o;clear o;have F:∀b9,(b9=w.heap.size\/b9=w.heap.size+1)->_:=fun b9 h9=>C.block b9 (by rcases h9 with rfl|rfl<;>omega)
    have M:=zz F;clear F;go_wp2_with fail;refine Canon.tr_end (fun b9 h9=>M.out b9 h9) (Canon.tr_fin (by rfl) (zF ⟨.inl ⟨_,rfl,.inl rfl,by rw[cn];rfl⟩,zF ⟨.inl ⟨_,rfl,.inr rfl,by rw[cp];rfl⟩,zF ⟨.inl ⟨_,rfl,.inl rfl,by rw[co];rfl⟩,zF ⟨.inl ⟨_,rfl,.inr rfl,by rw[cq];rfl⟩,fun _ h=>by cases h⟩⟩⟩⟩) ?_);go_wp2_with fail;go_meet;exact s.out
  ·simp only[zg];go_wp2_with fail;have gy:=(zr m.heap.size m).alloc zl (.cells #[.int .i64 0,.slice none 0 0,.slice none 0 0,.slice none 0 0] 67);have ej:=Bk.new m 67 [.int .i64 0,.slice none 0 0,.slice none 0 0,.slice none 0 0];obtain⟨b,t⟩:∃b,m.heap.size=b:=⟨_,rfl⟩;have f:m.heap.size<=b:=by rw[<- t];exact av.size
   rw[t]at ej;generalize m.alloc (.cells #[.int .i64 0,.slice none 0 0,.slice none 0 0,.slice none 0 0] 67)=cm at *;have b7:=av.trans (gy.mono av.size);rw[t];refine Canon.tr_end (fun b9 h9=>b7.block b9 (by rcases h9 with rfl|rfl<;>omega)) (Canon.tr_one ?_);simp only[zg];go_wp2_with fail;have gz:=(zr cm.heap.size cm).alloc zl (.cells #[] 74);have d6:=World.ownsRow_made (base:=m.heap.size) (e:=74) (size:=3) cm #[] 0 b7.size (Nat.zero_le _) rfl;have el:=ej.alloc (.cells #[] 74);generalize cm.alloc (.cells #[] 74)=j0 at *;have b8:=b7.trans (gz.mono b7.size);refine Canon.tr_end (fun b9 h9=>b8.block b9 (by rcases h9 with rfl|rfl<;>omega)) (Canon.tr_one ?_);simp only[zg];obtain⟨ev,er⟩:=Zen (bt.out.below zaaq (b8.mono (show B<=m.heap.size by omega)));refine zasq rfl (.tmp 16) (.tmp 18) 65 rfl m.heap.size Tryz.underlying65 Zo8 rfl (by decide) _ 0 [] rfl d6 A2 P.length c2 (Zal P) rfl (Za2 P) ev er (Zdw P) (by omega) (by decide) b8.size ?_;intro jj j1 ag cy dp _;rw[Nat.zero_add,List.nil_append]at ag;obtain⟨iq,j3,rfl,_⟩:=zaeq ag
   try rw[Nat.zero_add]
   have ba:=b8.trans dp;have em:=el.grown cy (fun e=>(Zdq d6 el (by decide)).elim (fun h=>by have Z:=e.trans h;cases Z) fun h=>h e.symm);clear ev er cy dp;go_wp2_with fail;all_goals try omega
   refine Canon.tr_end (fun b9 h9=>ba.block b9 (by rcases h9 with rfl|rfl<;>omega)) (Canon.tr_one ?_);simp only[zg];obtain⟨ew,es⟩:=Zen (b3.out.below zaaq (ba.mono (show B<=m.heap.size by omega)));refine zasq rfl (.tmp 19) (.tmp 21) 65 rfl m.heap.size Tryz.underlying65 Zo8 rfl (by decide) _ P.length (Zal P) rfl ag A4 Q.length c4 (Zal Q) rfl (Za2 Q) ew es (Zdw Q) (by omega) (by decide) ba.size ?_;intro jk a6 ah cz dq _;rw[ac.out,v.out]at ah;obtain⟨ch,cs,rfl,_⟩:=zaeq ah
   try rw[v.out]
   have dx:=ba.trans dq;have T:=em.grown cz (fun e=>(Zdq ag em (by decide)).elim (fun h=>by have Z:=e.trans h;cases Z) fun h=>h e.symm);clear ew es cz dq;go_wp2_with fail;all_goals try omega
   refine Canon.tr_end (fun b9 h9=>dx.block b9 (by rcases h9 with rfl|rfl<;>omega)) (Canon.tr_seg ?_);simp only[zm,zg];go_wp2_with fail;refine Canon.tr_to (Canon.tr_one ?_);simp only[zg];have s0:a6.cell? ⟨b,0,none⟩=some (.int .i64 0):=T.cell 0;have s1:a6.cell? ⟨b,1,none⟩=some (.slice none 0 0):=T.cell 1;have s2:a6.cell? ⟨b,2,none⟩=some (.slice none 0 0):=T.cell 2;have s3:a6.cell? ⟨b,3,none⟩=some (.slice none 0 0):=T.cell 3;have sf:=T.frozen;have q:=((((T.set 0 (.int .i64 ((n:Int)+(k:Int)))).set 1 (.slice none 0 0)).set 2 (.slice ch R.length cs)).set 3 (.slice none 0 0));have C:=((((dx.setCell (p:=⟨b,0,none⟩) f (.int .i64 ((n:Int)+(k:Int)))).setCell (p:=⟨b,1,none⟩) f (.slice none 0 0)).setCell (p:=⟨b,2,none⟩) f (.slice ch R.length cs)).setCell (p:=⟨b,3,none⟩) f (.slice none 0 0));have c:=Zdq ah T (by decide);have G:=ah.kept (Zar a6 b 0 (.int .i64 ((n:Int)+(k:Int)))) c;have H:=G.kept (Zar ((a6.setCell ⟨b,0,none⟩ (.int .i64 ((n:Int)+(k:Int))))) b 1 (.slice none 0 0)) c;have I:=H.kept (Zar (((a6.setCell ⟨b,0,none⟩ (.int .i64 ((n:Int)+(k:Int)))).setCell ⟨b,1,none⟩ (.slice none 0 0))) b 2 (.slice ch R.length cs)) c;have J:=I.kept (Zar ((((a6.setCell ⟨b,0,none⟩ (.int .i64 ((n:Int)+(k:Int)))).setCell ⟨b,1,none⟩ (.slice none 0 0)).setCell ⟨b,2,none⟩ (.slice ch R.length cs))) b 3 (.slice none 0 0)) c;have o:Zti d (n:Int) (k:Int) R (.pointer (some ⟨b,0,none⟩)) _:=⟨b,_,_,rfl,by omega,q,Zol (show d.heap.size<=m.heap.size by omega) J,(c.elim (fun h=>by rw[h];exact fun e=>by cases e) id),am.trans (C.mono (by omega))⟩;clear q G H I J;have s:=zz o;clear o;have F:∀b9,(b9=w.heap.size\/b9=w.heap.size+1)->_:=fun b9 h9=>C.block b9 (by rcases h9 with rfl|rfl<;>omega)
   have M:=zz F;clear F;go_wp2_with fail;refine Canon.tr_end (fun b9 h9=>M.out b9 h9) (Canon.tr_fin (by rfl) (zF ⟨.inl ⟨_,rfl,.inl rfl,by rw[cn];rfl⟩,zF ⟨.inl ⟨_,rfl,.inr rfl,by rw[cp];rfl⟩,zF ⟨.inl ⟨_,rfl,.inl rfl,by rw[co];rfl⟩,zF ⟨.inl ⟨_,rfl,.inr rfl,by rw[cq];rfl⟩,fun _ h=>by cases h⟩⟩⟩⟩) ?_);go_wp2_with fail;go_meet;exact s.out
 case rest =>
  obtain⟨g,A5,c5,rfl,hg,dz,d5,e7,bq⟩:=hcut;obtain⟨D,hs⟩:∃D,D=wc:=⟨_,rfl⟩;subst hs;have hu:=bq.size;have bx:=de.out.below bq (by omega);have c9:=df.out.below bq (by omega);have ds:=ge.out.below zaaq (bq.mono (show B<=d.heap.size by omega));obtain⟨kn,kc⟩:=Zen ds;have d1:D.cell? ⟨w.heap.size,1,none⟩=some (.slice A1 TA.length c1):=bx.cell 1;have f1:D.cell? ⟨w.heap.size+1,1,none⟩=some (.slice A3 TB.length c3):=c9.cell 1;have e1:D.cell? ⟨g,1,none⟩=some (.slice none 0 0):=dz.cell 1;have g3:D.ownsRow D.heap.size 57 3 (.slice none 0 0) 0 []:=zn _ _ _ _;clear a0 a1 a2 b0 b1 b2;obtain⟨dd,dh,f9,i0,i3,ie,h6,h5,gm⟩:=zz9 dz d5 e7 bx c9 ds kn kc g3;clear dz d5 e7 bx c9 ds kn kc g3;go_wp2_with(at_builtin;refine zasq rfl (.tmp 26) (.tmp 29) 22 rfl D.heap.size Tryz.underlying22 Zoi rfl (by decide) _ 0 [] rfl gm.out A1 TA.length c1 (Zal TA) rfl (Za2 TA) h6.out h5.out (Zdw TA) (by omega) (by decide) zl ?_);all_goals try omega
  intro v2 w2 r bv ai _
  try rw[Nat.zero_add]at r
  try rw[List.nil_append]at r
  obtain⟨A6,c6,rfl,_⟩:=zaeq r
  try rw[Nat.zero_add]
  have jd:=ai.size;have a3:=dd.out.below ai dd.out.lt;have an:=zafq dh.out ai zl;have Z:w2.cell? ⟨g,1,none⟩=some (.slice none 0 0):=a3.cell 1;have j4:=a3.frozen;have bw:=a3.set 1 (.slice A6 TA.length c6);have ao:=an.kept (Zar w2 g 1 (.slice A6 TA.length c6)) (.inr f9.out);have V:=r.kept (Zar w2 g 1 (.slice A6 TA.length c6)) (Zdq r a3 (by decide));have bu:=(bq.trans (ai.mono hu)).setCell (p:=⟨g,1,none⟩) hg (.slice A6 TA.length c6);have hv:(w2.setCell ⟨g,1,none⟩ (.slice A6 TA.length c6)).heap.size=w2.heap.size:=World.size_setCell ..;have f3:(w2.setCell ⟨g,1,none⟩ (.slice A6 TA.length c6)).cell? ⟨w.heap.size+1,1,none⟩=some (.slice A3 TB.length c3):=(df.out.below bu (by omega)).cell 1;clear d1 f1 e1 bv;obtain⟨U,hU⟩:∃U,TB.map (sh3 (n:Int))=U:=⟨_,rfl⟩;have ft:U.length=TB.length:=by rw[<- hU,zL]
  have ci:=zz hU;clear hU;obtain⟨w3,eh⟩:∃w3,w2.setCell ⟨g,1,none⟩ (.slice A6 TA.length c6)=w3:=⟨_,rfl⟩;rw[eh]at bw ao V bu hv f3;obtain⟨ib,hz,h3,f7,da,fc⟩:=zz6 r a3 an bw ao V;clear r a3 an bw ao V;go_wp2_with fail;all_goals try omega
  try rw[eh]
  clear eh;go_loopw[37] (fun iv wr=>∃(i:Nat) (L:Option Addr) (N:Nat),i<=TB.length/\iv=.int .i64 (i:Int)/\Bk wr g 67 [.int .i64 ((n:Int)+(k:Int)),.slice L (TA.length+i) N,.slice A5 R.length c5,.slice none 0 0] /\
   wr.ownsRow D.heap.size 57 3 (.slice L (TA.length+i) N) (TA.length+i) (Zal (TA++U.take i))/\wr.ownsRow d.heap.size 74 3 (.slice A5 R.length c5) R.length (Zal R)/\Below d.heap.size d wr/\D.heap.size<=wr.heap.size) (fun iv _=>TB.length-(intOf iv).toNat)
  case atStart=>exact⟨0,A6,c6,by omega,rfl,f7.out,by simpa using fc.out,da.out,bu,by omega⟩
  case round =>
   obtain⟨i,L,N,hi,rfl,W,X,ax,br,jg⟩:=hrel;obtain⟨A,ht⟩:∃A,A=wr:=⟨_,rfl⟩;subst ht;by_cases fz:i<TB.length
   ·have du:=f6.out.below zaaq (br.mono (show B<=d.heap.size by omega));obtain⟨bb,ob,rfl,C,t0,t1,t2⟩:=du.tri_at fz;obtain⟨⟨r0,r1⟩,⟨r2,r3⟩,r4,r5⟩:=h4.out i fz;have fs:U[i]'(by omega)=sh3 (n:Int) TB[i]:=by
     have h1:=ci.out;subst h1;exact List.getElem_map ..
    have g6:Zal (TA++U.take i)++[.int .i64 (TB[i].1+(n:Int)),.int .i64 (TB[i].2.1+(n:Int)),.int .i64 (TB[i].2.2+(n:Int))]=Zal (TA++U.take (i+1)):=by
     rw[zT (show i<U.length by omega),fs,<- List.append_assoc,flat3_app (TA++U.take i)];rfl
    clear fs;generalize TB[i].1=x at *;generalize TB[i].2.1=y at *;generalize TB[i].2.2=z at *;have c0:=de.out.below br (by omega);obtain⟨K,a7⟩:∃K,A.alloc (.cells #[.int .i64 x,.int .i64 y,.int .i64 z] 57)=K:=⟨_,rfl⟩;have h7:Bk K A.heap.size 57 [.int .i64 x,.int .i64 y,.int .i64 z]:=by rw[<- a7];exact Bk.new A _ _
    have Y:K.heap.size=A.heap.size+1:=by rw[<- a7];simp
    have bz:Bk K w.heap.size 67 [.int .i64 (n:Int),.slice A1 TA.length c1,.slice A2 P.length c2,.slice Ak la ca]:=by rw[<- a7];exact c0.alloc _
    have bd:Bk K g 67 [.int .i64 ((n:Int)+(k:Int)),.slice L (TA.length+i) N,.slice A5 R.length c5,.slice none 0 0]:=by rw[<- a7];exact W.alloc _
    have cd:K.ownsRow D.heap.size 57 3 (.slice L (TA.length+i) N) (TA.length+i) (Zal (TA++U.take i)):=by rw[<- a7];exact X.alloc _
    have cc:K.ownsRow d.heap.size 74 3 (.slice A5 R.length c5) R.length (Zal R):=by rw[<- a7];exact ax.alloc _
    have fw:Below d.heap.size d K:=by rw[<- a7];exact br.alloc (by omega) _
    have q0:K.cell? ⟨A.heap.size,0,none⟩=some (.int .i64 x):=h7.cell 0;have q1:K.cell? ⟨A.heap.size,1,none⟩=some (.int .i64 y):=h7.cell 1;have q2:K.cell? ⟨A.heap.size,2,none⟩=some (.int .i64 z):=h7.cell 2;have n0:K.cell? ⟨w.heap.size,0,none⟩=some (.int .i64 (n:Int)):=bz.cell 0;have g1:K.cell? ⟨g,1,none⟩=some (.slice L (TA.length+i) N):=bd.cell 1;obtain⟨wl,aq⟩:∃wl,K.alloc (.cells #[.int .i64 (x+(n:Int)),.int .i64 (y+(n:Int)),.int .i64 (z+(n:Int))] 57)=wl:=⟨_,rfl⟩;have e6:Bk wl (A.heap.size+1) 57 [.int .i64 (x+(n:Int)),.int .i64 (y+(n:Int)),.int .i64 (z+(n:Int))]:=by rw[<- Y,<- aq];exact Bk.new K _ _
    have e5:Bk wl g 67 [.int .i64 ((n:Int)+(k:Int)),.slice L (TA.length+i) N,.slice A5 R.length c5,.slice none 0 0]:=by rw[<- aq];exact bd.alloc _
    have ef:wl.ownsRow D.heap.size 57 3 (.slice L (TA.length+i) N) (TA.length+i) (Zal (TA++U.take i)):=by rw[<- aq];exact cd.alloc _
    have eb:wl.ownsRow d.heap.size 74 3 (.slice A5 R.length c5) R.length (Zal R):=by rw[<- aq];exact cc.alloc _
    have hm:Below d.heap.size d wl:=by rw[<- aq];exact fw.alloc fw.size _
    have jf:wl.heap.size=A.heap.size+2:=by rw[<- aq];simp;omega
    have d4:∀ad,(some ⟨A.heap.size+1,0,none⟩:Option Addr)=some ad->∀j u,([.int .i64 (x+(n:Int)),.int .i64 (y+(n:Int)),.int .i64 (z+(n:Int))]:List Value)[j]? = some u->wl.cell? (ad.add j)=some u:=fun ad e j u hj=>by
     injection e with e;subst e;rw[Addr.add_lit,Nat.zero_add];exact(e6.cell j).trans hj
    obtain⟨gj,gs,gn,ig,gr,i2,ih,cj,b4,ck,ir,i1⟩:=zz12 W X ax du g6 c0 e6 e5 ef eb h7 bz;obtain⟨i4,ia,i8,dg⟩:=zz4 bd cd cc d4;clear W X ax du g6 c0 e6 e5 ef eb h7 bz bd cd cc d4;go_wp2_with(at_builtin;refine zasq rfl (.tmp 43) (.tmp 63) 22 rfl D.heap.size Tryz.underlying22 Zoi rfl (by decide) _ (TA.length+i) (Zal (TA++U.take i)) rfl b4.out (some ⟨A.heap.size+1,0,none⟩) 1 1 [.int .i64 (x+(n:Int)),.int .i64 (y+(n:Int)),.int .i64 (z+(n:Int))] rfl rfl (fun h=>by cases h) dg.out (by simp[Value.oneCell']) (by omega) (by decide) (by omega) ?_);all_goals try omega
    intro v8 w8 a4 bc he _;clear aq a7;obtain⟨A8,c8,rfl,_⟩:=zaeq a4;rw[gr.out,show TA.length+i+1=TA.length+(i+1) by omega]at a4
    try rw[show TA.length+i+1=TA.length+(i+1) by omega]
    have je:=bc.size;have O:Bk w8 g 67 [.int .i64 ((n:Int)+(k:Int)),.slice L (TA.length+i) N,.slice A5 R.length c5,.slice none 0 0]:=cj.out.grown bc (fun e=>(Zdq b4.out cj.out (by decide)).elim (fun h=>by have Z:=e.trans h;cases Z) fun h=>h e.symm);have bh:=ck.out.kept bc (own_kinds ck.out b4.out (by decide));have hl:=hm.trans (he.mono (by omega));have g8:w8.cell? ⟨g,1,none⟩=some (.slice L (TA.length+i) N):=O.cell 1;have j5:=O.frozen;have e4:=O.set 1 (.slice A8 (TA.length+(i+1)) c8);have ea:=bh.kept (Zar w8 g 1 (.slice A8 (TA.length+(i+1)) c8)) (Zdq bh O (by decide));have ee:=a4.kept (Zar w8 g 1 (.slice A8 (TA.length+(i+1)) c8)) (Zdq a4 O (by decide));have fx:=hl.setCell (p:=⟨g,1,none⟩) hg (.slice A8 (TA.length+(i+1)) c8);have ay:D.heap.size<=(w8.setCell ⟨g,1,none⟩ (.slice A8 (TA.length+(i+1)) c8)).heap.size:=by rw[World.size_setCell];omega
    clear g1 bc;obtain⟨ic,i5,i9,f8,fa,fb,gh,gt⟩:=zz8 a4 O bh e4 ea ee fx ay;clear a4 O bh e4 ea ee fx ay;go_wp2_with fail;all_goals try omega
    exact⟨⟨i+1,A8,c8,by omega,by simp,f8.out,fb.out,fa.out,gh.out,gt.out⟩,by simp[intOf];omega⟩
   ·obtain rfl:TB.length=i:=by omega
    rw[<- ft,List.take_length,<- ci.out]at X;rw[ci.out]at X;have be:TA.length+TB.length=(duo (n:Int) TA TB).length:=(Zi8 _ _ _).symm;have hp:TA++U=duo (n:Int) TA TB:=by rw[<- ci.out];rfl
    rw[hp,ft]at X;have e0:A.cell? ⟨g,0,none⟩=some (.int .i64 ((n:Int)+(k:Int))):=W.cell 0;have e1:A.cell? ⟨g,1,none⟩=some (.slice L (TA.length+TB.length) N):=W.cell 1;have Z:A.cell? ⟨g,2,none⟩=some (.slice A5 R.length c5):=W.cell 2;have e3:A.cell? ⟨g,3,none⟩=some (.slice none 0 0):=W.cell 3;have E:=gl.out.below br (by omega);have s0:A.cell? ⟨w.heap.size+2,0,none⟩=some (.int .i64 0):=E.cell 0;have s1:A.cell? ⟨w.heap.size+2,1,none⟩=some (.slice none 0 0):=E.cell 1;have s2:A.cell? ⟨w.heap.size+2,2,none⟩=some (.slice none 0 0):=E.cell 2;have s3:A.cell? ⟨w.heap.size+2,3,none⟩=some (.slice none 0 0):=E.cell 3;have sf:=E.frozen;have g0:=(((E.set 0 (.int .i64 ((n:Int)+(k:Int)))).set 1 (.slice L (TA.length+TB.length) N)).set 2 (.slice A5 R.length c5)).set 3 (.slice none 0 0);have d0:w.heap.size+2<d.heap.size:=by omega
    have ce:=Zff (Zff (Zff (Zff X (i:=0) (u:=.int .i64 ((n:Int)+(k:Int))) (show w.heap.size+2<D.heap.size by omega)) (i:=1) (u:=.slice L (TA.length+TB.length) N) (show w.heap.size+2<D.heap.size by omega)) (i:=2) (u:=.slice A5 R.length c5) (show w.heap.size+2<D.heap.size by omega)) (i:=3) (u:=.slice none 0 0) (show w.heap.size+2<D.heap.size by omega);have ec:=Zff (Zff (Zff (Zff ax (i:=0) (u:=.int .i64 ((n:Int)+(k:Int))) d0) (i:=1) (u:=.slice L (TA.length+TB.length) N) d0) (i:=2) (u:=.slice A5 R.length c5) d0) (i:=3) (u:=.slice none 0 0) d0;have ho:=aw.trans (br.mono aw.size);have bg:w.heap.size<=w.heap.size+2:=by omega
    have fy:=(((ho.setCell (p:=⟨w.heap.size+2,0,none⟩) bg (.int .i64 ((n:Int)+(k:Int)))).setCell (p:=⟨w.heap.size+2,1,none⟩) bg (.slice L (TA.length+TB.length) N)).setCell (p:=⟨w.heap.size+2,2,none⟩) bg (.slice A5 R.length c5)).setCell (p:=⟨w.heap.size+2,3,none⟩) bg (.slice none 0 0);rw[be]at ce;have ed:=Sl.of_own (sz:=3) (R:=RTri) (l:=duo (n:Int) TA TB) ce fun i a hi=>Zeh _ i a hi
    rw[<- be]at ed;have g4:=Sl.of_own (sz:=3) (R:=RTri) (l:=R) ec fun i a hi=>Zeh _ i a hi
    clear ce ec;obtain⟨gj,gs,gn,i6,gk,gi,gq,gp,i7⟩:=zz9 W X ax E g0 fy ed g4 be;clear W X ax E g0 fy ed g4 be;go_wp2_with fail;all_goals try omega
    refine Zbg rfl rfl gk.out Tryz.underlying67 rfl (by kernel_rfl) rfl ⟨⟨_,_,rfl,gq.out,gp.out⟩,gi.out⟩
open Go Go.RowKit Go.Words Go.Mesh
theorem sl_len{α:Type}{sz:Nat}{R:Rep α}{w:World}{B n cap:Nat}{A:Option Addr}{l:List α}(h:Sl sz R w B (.slice A n cap) l):n=l.length:=by
 obtain⟨_,_,e,_⟩:=h;injection e
theorem Zv5{w:World}{g0:Nat}{cs:List Value}{A3:Option Addr}{n c:Nat}(hk:Bk w g0 67 cs)(h3:cs[3]? = some (.slice A3 n c))(u:Value){p:Addr}{k:Int}(hp:w.cell? p=some (.int .i64 k)):(w.setCell ⟨g0,3,none⟩ u).cell? p=some (.int .i64 k):=by
 rw[World.cell?_setCell_other,hp];rintro rfl;rw[hk.cell 3,h3]at hp;cases hp
theorem tab_put{w:World}{g0 B:Nat}{cs:List Value}{A3:Option Addr}{n c:Nat}(hk:Bk w g0 67 cs)(h3:cs[3]? = some (.slice A3 n c))(u:Value){v:Value}{N:Int}{T:List T3}(h:Tab w B v N T):Tab (w.setCell ⟨g0,3,none⟩ u) B v N T:=by
 obtain⟨g,vt,G,R,m,F,K,f,I,L,M,O,P⟩:=h;have Q:g≠g0:=by
  rintro rfl;have d:=f.blk;unfold Bk at d hk;rw[hk]at d;injection d with d;injection d with _ q _;exact absurd q (by decide)
 have H:G≠g0:=by
  rintro rfl;obtain⟨S,J,d,_⟩:=I.block;unfold Bk at hk;rw[hk]at d;injection d with d;cases d
 refine⟨g,vt,G,R,m,F,K,⟨f.blk.far (p:=⟨g0,3,none⟩) Q u,?_,f.few,f.lt,by rw[World.size_setCell];exact f.le⟩,I.far (p:=⟨g0,3,none⟩) H u,L,M,?_,P⟩
 ·obtain⟨A,k,d,q,s⟩:=f.tris;refine⟨A,k,d,q,fun i a hi=>?_⟩;obtain⟨b,o,l,z,C,D,r,E⟩:=s i a hi;refine⟨b,o,l,z,C,D,r,fun j x hx=>?_⟩;have t:=E j x hx;obtain⟨y,rfl⟩:∃y,x=.int .i64 y:=by
   rw[r]at hx;have e:=List.mem_of_getElem? hx;simp only[List.mem_cons,List.not_mem_nil,or_false]at e;rcases e with rfl|rfl|rfl<;>exact⟨_,rfl⟩
  exact Zv5 hk h3 u t
 ·obtain⟨A,k,d,q,s⟩:=O;refine⟨A,k,d,q,fun i a hi=>?_⟩;obtain⟨b,o,l,z,C,D,r,E⟩:=s i a hi;refine⟨b,o,l,z,C,D,r,fun j x hx=>?_⟩;have t:=E j x hx;obtain⟨y,rfl⟩:∃y,x=.int .i64 y:=by
   rw[r]at hx;have e:=List.mem_of_getElem? hx;simp only[List.mem_cons,List.not_mem_nil,or_false]at e;exact⟨_,e⟩
  exact Zv5 hk h3 u t
theorem gG_bound{N:Int}{T:List T3}(hs:Surf N T)(ox:List Int)(s:Nat):-100000<=gG N T ox s/\gG N T ox s<=100000:=by
 have c:=hs.tmax;have b:=hs.nmax;have a:=hs.n0;have g:cV T ox s N.toNat<=4096:=by have:=Ze4 (fun v=>shN ox (cnr T v/3)==s) N.toNat;unfold cV;omega
 have h:gE T ox s<=50000:=by have:=twC_le T ox s (3*T.length);unfold twC at this;unfold gE;omega
 have i:cF ox s T.length<=8192:=by have:=Ze4 (fun t=>shN ox t==s) T.length;unfold cF;omega
 have j:cB T ox (lps T N N.toNat) s<=4096:=by
  have:=List.countP_le_length (p:=fun l:List Nat=>shN ox (cnr T (l.headD 0)/3)==s) (l:=lps T N N.toNat);have f:=Zec T N N.toNat;unfold cB;omega
 have k:-60000<=gU N T ox s/\gU N T ox s<=60000:=by unfold gU;omega
 have d:=Int.tmod_def ((2:Int)-(cB T ox (lps T N N.toNat) s:Int)-gU N T ox s) 2;have e:=Zj7 ((2:Int)-(cB T ox (lps T N N.toNat) s:Int)-gU N T ox s) (n:=2) (by omega);unfold gG;omega
theorem tri_rng{N:Int}{T:List T3}(hs:Surf N T){i:Nat}(hi:i<T.length):(0<=T[i].1/\T[i].1<N)/\(0<=T[i].2.1/\T[i].2.1<N)/\0<=T[i].2.2/\T[i].2.2<N:=by
 have a:∀j,j<3->0<=vx T[i] j/\vx T[i] j<N:=fun j hj=>by
  have h:=hs.rng (3*i+j) (by omega);unfold Mesh.vt at h;rw[show(3*i+j)/3=i by omega,show(3*i+j)%3=j by omega,zD,zG hi]at h;exact h
 exact⟨a 0 (by omega),a 1 (by omega),a 2 (by omega)⟩
theorem may_both{n k:Nat}{A B P Q:List T3}{Ka Kb:List Int}(ha:mayB (n:Int) A P Ka=true)(hb:mayB (k:Int) B Q Kb=true):mayB ((n+k:Nat):Int) (duo (n:Int) A B) (P++Q) []=true:=by
 unfold mayB at ha hb ⊢;rw[Bool.and_eq_true,Bool.and_eq_true]at ha hb ⊢;have a:=of_decide_eq_true ha.1;have b:=of_decide_eq_true hb.1;refine⟨zY ⟨by rw[zA];omega,.inl rfl⟩,?_,rfl⟩;rw[List.all_append,ha.2.1,hb.2.1];rfl
theorem joins_plain{n k:Nat}{A B P Q:List T3}{Ka Kb:List Int}(hA:Surf (n:Int) A)(hB:Surf (k:Int) B)(ha:mayB (n:Int) A P Ka=true)(hb:mayB (k:Int) B Q Kb=true)
  {x y:Nat} (hx:x<(lps A (n:Int) n).length) (hy:y<(lps B (k:Int) k).length) {t c:Int} (h:Zqe ((n+k:Nat):Int) (duo (n:Int) A B) (P++Q) [] (x:Int) (((lps A (n:Int) n).length+y:Nat):Int) t c) :
  c=11\/c=13\/(c=0/\∀(m:Nat) (Y:List T3),m=rnk (labP (Za4 ((lps (duo (n:Int) A B) ((n+k:Nat):Int) (n+k)).getD x []) ((lps (duo (n:Int) A B) ((n+k:Nat):Int) (n+k)).getD ((lps A (n:Int) n).length+y) []) t)) (n+k)->Y=sewT (labP (Za4 ((lps (duo (n:Int) A B) ((n+k:Nat):Int) (n+k)).getD x []) ((lps (duo (n:Int) A B) ((n+k:Nat):Int) (n+k)).getD ((lps A (n:Int) n).length+y) []) t)) (duo (n:Int) A B) ->
   Surf (m:Int) Y/\∀oA oB oY CY,Pt A oA 1 A.length->Pt B oB 1 B.length->Pt Y oY CY Y.length->CY=1/\(lps Y (m:Int) m).length+2=(lps A (n:Int) n).length+(lps B (k:Int) k).length/\sumI (fun s=>gG (m:Int) Y oY s) CY=sumI (fun s=>gG (n:Int) A oA s) 1+sumI (fun s=>gG (k:Int) B oB s) 1):=by
 unfold Zqe at h;simp only[zC]at h;rcases h with⟨_,a⟩|⟨_,a,_⟩|⟨b,_,a,_⟩|⟨b,_,i,j,hi,e,u,v,h⟩
 ·exact .inl a
 ·rw[may_both ha hb]at a;cases a
 ·have d:Duo n k A B:=⟨hA,hB,b⟩;have:=d.loops.1;omega
 ·have d:Duo n k A B:=⟨hA,hB,b⟩;obtain rfl:=Int.ofNat.inj u;obtain rfl:=Int.ofNat.inj v;rcases h with⟨a,_⟩|⟨_,_,a⟩|⟨g,l,⟨_,a⟩|⟨D,a⟩⟩
  ·omega
  ·exact .inr (.inl a)
  ·exact .inl a
  ·refine .inr (.inr ⟨a,fun m Y hm hYe=>?_⟩);have w:(lps (duo (n:Int) A B) ((n+k:Nat):Int) (n+k)).getD x []=(lps (duo (n:Int) A B) ((n+k:Nat):Int) (n+k))[x]:=by rw[zD,zG hi];rfl
   have z:(lps (duo (n:Int) A B) ((n+k:Nat):Int) (n+k)).getD ((lps A (n:Int) n).length+y) []=(lps (duo (n:Int) A B) ((n+k:Nat):Int) (n+k))[(lps A (n:Int) n).length+y]:=by rw[zD,zG e];rfl
   rw[w,z]at hm hYe;have f:Surf (m:Int) Y:=by rw[hm,hYe];exact D
   refine⟨f,fun oA oB oY CY pA pB hP=>?_⟩;have C:Two ((n+k:Nat):Int) (duo (n:Int) A B) (lps (duo (n:Int) A B) ((n+k:Nat):Int) (n+k))[x] (lps (duo (n:Int) A B) ((n+k:Nat):Int) (n+k))[(lps A (n:Int) n).length+y]:=⟨b,b.lps_round (zM hi),b.lps_round (zM e),l,b.lps_apart hi e g⟩;obtain⟨E,o,p⟩:=d.loops.2.1 x hx;obtain⟨F,q,r⟩:=d.loops.2.2 y hy;rw[zG hi]at o;rw[zG e]at q;rw[<- zO o]at p;rw[<- zO q]at r;exact d.joined C hYe hm f (zG hi) (zG e) g p r pA pB hP
def JoinsB(w0:World)(M:Int)(T P:List T3)(x y t:Int)(s u:Value)(wx:World):Prop :=
 ∃(g:Nat) (x0:Int) (D1 D2 D3:Option Addr) (l1 l2 l3 d1 d2 d3:Nat) (c:Int),s=.pointer (some ⟨g,0,none⟩)/\u=.int .i64 c/\w0.heap.size<=g/\Bk wx g 67 [.int .i64 x0,.slice D1 l1 d1,.slice D2 l2 d2,.slice D3 l3 d3]/\Below w0.heap.size w0 wx /\
  Zqe M T P [] x y t c/\(c=0->Zij wx M T P [] x y t (.agg #[.int .i64 x0,.slice D1 l1 d1,.slice D2 l2 d2,.slice D3 l3 d3]))
theorem Zuy{w w':World}{M:Int}{T P:List T3}{x y t c:Int}{v:Value}(hno:c≠0->v=noBody)(hmk:c=0->∀wz:World,(∀b,w.heap.size<=b->b<w'.heap.size->wz.heap[b]? = w'.heap[b]?)->Zij wz M T P [] x y t v) :
  ∃(x0:Int) (D1 D2 D3:Option Addr) (l1 l2 l3 d1 d2 d3:Nat),v=.agg #[.int .i64 x0,.slice D1 l1 d1,.slice D2 l2 d2,.slice D3 l3 d3]:=by
 by_cases a:c=0
 ·obtain⟨i,pv,h,d,e,f,g⟩:=hmk a w' fun _ _ _=>rfl
  obtain⟨_,_,rfl,_⟩:=e.form;obtain⟨_,_,rfl,_⟩:=f.form;obtain⟨_,_,rfl,_⟩:=g.form;exact⟨_,_,_,_,_,_,_,_,_,_,d⟩
 ·exact⟨_,_,_,_,_,_,_,_,_,_,hno a⟩
theorem gluejoins_law(sa pa ka:Value)(Na:Int)(TA PA:List T3)(KA:List Int)(sb pb kb:Value)(Nb:Int)(TB PB:List T3)(KB:List Int)(m1 m2 m3:Nat)(w:World){B:Nat}(hB0:B<=w.heap.size)
  (hTa:Sl 3 RTri w B sa TA) (hPa:Sl 3 RTri w B pa PA) (hKa:Sl 1 RInt w B ka KA) (hNa:I64 Na) (hTb:Sl 3 RTri w B sb TB) (hPb:Sl 3 RTri w B pb PB) (hKb:Sl 1 RInt w B kb KB) (hNb:I64 Nb) (hm1:m1<256) (hm2:m2<256) (hm3:m3<256) :
  Calls Tryz.prog 14 #[.agg #[.int .i64 Na,sa,pa,ka],.agg #[.int .i64 Nb,sb,pb,kb],.int .u8 (m1:Int),.int .u8 (m2:Int),.int .u8 (m3:Int)] w fun e w'=>e=.returned (.bool true)/\Below w.heap.size w w':=by
 obtain⟨A1,c1,rfl,n6⟩:=hTa.form;obtain⟨A2,c2,rfl,n7⟩:=hPa.form;obtain⟨A3,c3,rfl,i4⟩:=hKa.form;obtain⟨A4,c4,rfl,i5⟩:=hTb.form;obtain⟨A5,c5,rfl,f9⟩:=hPb.form;obtain⟨A6,c6,rfl,n8⟩:=hKb.form;obtain⟨w0,bn⟩:∃w0,(w.alloc (.cells #[.int .i64 Na,.slice A1 TA.length c1,.slice A2 PA.length c2,.slice A3 KA.length c3] 67)).alloc (.cells #[.int .i64 Nb,.slice A4 TB.length c4,.slice A5 PB.length c5,.slice A6 KB.length c6] 67)=w0:=⟨_,rfl⟩;have ai:Below w.heap.size w w0:=by rw[<- bn];exact((zr w.heap.size w).alloc zl _).alloc (by simp) _
 have bm:Bk w0 w.heap.size 67 [.int .i64 Na,.slice A1 TA.length c1,.slice A2 PA.length c2,.slice A3 KA.length c3]:=by rw[<- bn];exact(Bk.new w _ _).alloc _
 have ib:Bk w0 (w.heap.size+1) 67 [.int .i64 Nb,.slice A4 TB.length c4,.slice A5 PB.length c5,.slice A6 KB.length c6]:=by rw[<- bn];exact Bk.new' (n:=w.heap.size+1) (w:=w.alloc (.cells #[.int .i64 Na,.slice A1 TA.length c1,.slice A2 PA.length c2,.slice A3 KA.length c3] 67)) _ _ (by simp)
 have nn:w0.heap.size=w.heap.size+2:=by rw[<- bn];simp
 have dd:=hTa.below zaaq (ai.mono hB0);have dc:=hPa.below zaaq (ai.mono hB0);have db:=hKa.below zadq (ai.mono hB0);have ez:=hTb.below zaaq (ai.mono hB0);have ey:=hPb.below zaaq (ai.mono hB0);have ex:=hKb.below zadq (ai.mono hB0);have a0:w0.cell? ⟨w.heap.size,0,none⟩=some (.int .i64 Na):=bm.cell 0;have a1:w0.cell? ⟨w.heap.size,1,none⟩=some (.slice A1 TA.length c1):=bm.cell 1;have a2:w0.cell? ⟨w.heap.size,2,none⟩=some (.slice A2 PA.length c2):=bm.cell 2;have a3:w0.cell? ⟨w.heap.size,3,none⟩=some (.slice A3 KA.length c3):=bm.cell 3;have i8:=Zlt (w:=w0) (B:=B) (by omega) dd dc db hNa;obtain⟨iv,ir,lj,iw,it,ll,j3,eo,l7,l6,l5,gi⟩:=zz12 hTa hPa hKa hTb hPb hKb bm ib dd dc db ez;obtain⟨gh,gg,j0⟩:=zz3 ey ex i8;clear hTa hPa hKa hTb hPb hKb bm ib dd dc db ez ey ex i8;go_enter Tryz.func14,Tryz.ntmps14;go_wp2_with fail;all_goals try omega
 try rw[bn]
 clear bn;refine j0.out.mono ?_;rintro e w1 ⟨⟨tv,kx,rfl,fw⟩,bd⟩;have kr:=bd.size;have dx:=ai.trans (bd.mono ai.size);have ae:=eo.out.below bd (by omega);have b0:w1.cell? ⟨w.heap.size+1,0,none⟩=some (.int .i64 Nb):=ae.cell 0;have b1:w1.cell? ⟨w.heap.size+1,1,none⟩=some (.slice A4 TB.length c4):=ae.cell 1;have b2:w1.cell? ⟨w.heap.size+1,2,none⟩=some (.slice A5 PB.length c5):=ae.cell 2;have b3:w1.cell? ⟨w.heap.size+1,3,none⟩=some (.slice A6 KB.length c6):=ae.cell 3;have i9:=Zlt (w:=w1) (B:=B) (by omega) (gi.out.below zaaq (bd.mono (by omega))) (gh.out.below zaaq (bd.mono (by omega))) (gg.out.below zadq (bd.mono (by omega))) hNb;obtain⟨gq,ld,j1⟩:=zz3 fw ae i9;clear fw ae i9;go_wp2_with fail;all_goals try omega
 refine j1.out.mono ?_;rintro e w2 ⟨⟨uv,ok2,rfl,fx⟩,du⟩;have ks:=du.size;have dy:=dx.trans (du.mono dx.size);have i2:=Zdu w2;obtain⟨gr,ix⟩:=zz2 fx i2;clear fx i2;go_wp2_with fail;all_goals try omega
 refine ix.out.mono ?_;rintro e w3 ⟨rfl,cq⟩;have np:=cq.size;have O:=dy.trans (cq.mono dy.size);cases kx with
 | false =>
  have r:=Zdu w3;have z:=zz r;clear r;go_wp2_with fail;all_goals try omega
  refine z.out.mono ?_;rintro e C ⟨rfl,F⟩;have l:=O.trans (F.mono O.size);go_wp2_with fail;go_ret;exact⟨rfl,l⟩
 | true =>
 cases ok2 with
 | false =>
  have r:=Zdu w3;have z:=zz r;clear r;go_wp2_with fail;all_goals try omega
  refine z.out.mono ?_;rintro e C ⟨rfl,F⟩;have l:=O.trans (F.mono O.size);go_wp2_with fail;go_ret;exact⟨rfl,l⟩
 | true =>
 obtain⟨ho,e8,fu,B1,Q⟩:=gq.out rfl;obtain⟨hp,g2,fv,B2,T⟩:=gr.out rfl;obtain⟨q1,q2,q3,q4⟩:=Zv7 ho;obtain⟨q5,q6,q7,q8⟩:=Zv7 hp;clear ho hp;obtain⟨gt,rfl⟩:∃gt,tv=.pointer (some gt):=by
  obtain⟨g,_,_,_,_,_,rfl,_⟩:=Q;exact⟨_,rfl⟩
 obtain⟨gu,rfl⟩:∃gu,uv=.pointer (some gu):=by
  obtain⟨g,_,_,_,_,_,rfl,_⟩:=T;exact⟨_,rfl⟩
 obtain⟨n,rfl⟩:∃n:Nat,Na=n:=⟨Na.toNat,by have:=e8.n0;omega⟩;obtain⟨k,rfl⟩:∃k:Nat,Nb=k:=⟨Nb.toNat,by have:=g2.n0;omega⟩;have dg:=Q.below (du.trans (cq.mono ks)) Q.le;have g4:=T.below cq T.le;have n4:=Q.le;have n5:=T.le;have i6:=Zdv (w:=w3) dg e8;obtain⟨b8,gn,jy,U,gp,jz,dj,br,iy⟩:=zz9 e8 fu Q g2 fv T dg g4 i6;clear e8 fu Q g2 fv T dg g4 i6;go_wp2_with fail;all_goals try omega
 refine iy.out.mono ?_;rintro e w4 ⟨⟨oa,Ca,rfl,e6⟩,dv⟩;have kt:=dv.size;have an:=O.trans (dv.mono O.size);by_cases k9:Ca=1
 case neg =>
  have ki:((Ca:Int)!=1)=true:=by rw[bne_iff_ne];omega
  have ep:=zz e6;clear e6;go_upto_region 4 with fail;all_goals try omega
  have r:=Zdu w4;have z:=zz r;clear r;go_wp2_with fail;all_goals try omega
  refine z.out.mono ?_;rintro e C ⟨rfl,F⟩;have l:=an.trans (F.mono an.size);go_wp2_with fail;go_ret;exact⟨rfl,l⟩
 subst k9;have i7:=Zdv (w:=w4) (br.out.below dv (by omega)) U.out;obtain⟨ep,iz⟩:=zz2 e6 i7;clear e6 i7;go_wp2_with fail;all_goals try omega
 refine iz.out.mono ?_;rintro e w5 ⟨⟨ob,Cb,rfl,e7⟩,f6⟩;have nq:=f6.size;have ao:=an.trans (f6.mono an.size);by_cases kc:Cb=1
 case neg =>
  have ki:((Cb:Int)!=1)=true:=by rw[bne_iff_ne];omega
  have er:=zz e7;clear e7;go_upto_region 4 with fail;all_goals try omega
  have r:=Zdu w5;have z:=zz r;clear r;go_wp2_with fail;all_goals try omega
  refine z.out.mono ?_;rintro e C ⟨rfl,F⟩;have l:=ao.trans (F.mono ao.size);go_wp2_with fail;go_ret;exact⟨rfl,l⟩
 subst kc;have f5:=dv.trans (f6.mono kt);have fs:=Za7 (w:=w5) (.inl (dj.out.below f5 (by omega))) b8.out;rw[zC]at fs;obtain⟨er,j5⟩:=zz2 e7 fs;clear e7 fs;go_wp2_with fail;all_goals try omega
 refine j5.out.mono ?_;rintro e w6 ⟨⟨ra,rfl,ii⟩,f7⟩;have nr:=f7.size;have dz:=ao.trans (f7.mono ao.size);obtain⟨la,c0⟩:∃la,(lps TA (n:Int) n).length=la:=⟨_,rfl⟩;have mb:la<=n:=by rw[<- c0];exact Zec _ _ _
 obtain⟨he,hr,rfl⟩:∃he hr,ra=.slice he la hr:=by
  obtain⟨vs,_,j,_⟩:=ii;rw[c0]at j;obtain⟨A9,c9,h8,_⟩:=zaeq j;exact⟨A9,c9,h8⟩
 clear ii;have de:=f5.trans (f7.mono (by omega));have ft:=Za7 (w:=w6) (.inl (br.out.below de (by omega))) U.out;rw[zC]at ft;obtain⟨am,j6⟩:=zz2 c0 ft;clear c0 ft;go_wp2_with fail;all_goals try omega
 refine j6.out.mono ?_;rintro e w7 ⟨⟨rb,rfl,ij⟩,dw⟩;have ns:=dw.size;have bv:=dz.trans (dw.mono dz.size);obtain⟨lb,c7⟩:∃lb,(lps TB (k:Int) k).length=lb:=⟨_,rfl⟩;have me:lb<=k:=by rw[<- c7];exact Zec _ _ _
 obtain⟨hf,hs,rfl⟩:∃hf hs,rb=.slice hf lb hs:=by
  obtain⟨vs,_,j,_⟩:=ij;rw[c7]at j;obtain⟨A9,c9,h8,_⟩:=zaeq j;exact⟨A9,c9,h8⟩
 clear ij;have di:=zz c7;clear c7;by_cases ma:la=0
 ·have ih:((la:Int)==0)=true:=by rw[beq_iff_eq];omega
  go_wp2_with fail;all_goals try omega
  go_ret;exact⟨rfl,bv⟩
 by_cases md:lb=0
 ·have kp:((la:Int)==0)=false:=by rw[beq_eq_false_iff_ne];omega
  have ih:((lb:Int)==0)=true:=by rw[beq_iff_eq];omega
  go_wp2_with fail;all_goals try omega
  go_ret;exact⟨rfl,bv⟩
 have kp:((la:Int)==0)=false:=by rw[beq_eq_false_iff_ne];omega
 have ih:((lb:Int)==0)=false:=by rw[beq_eq_false_iff_ne];omega
 have f1:Below w0.heap.size w0 w7:=((bd.trans (du.mono kr)).trans (cq.mono (by omega))).trans ((de.trans (dw.mono (by omega))).mono (by omega));have X:=j3.out.below f1 (by omega);have A:=eo.out.below f1 (by omega);have e3:w7.cell? ⟨w.heap.size,3,none⟩=some (.slice A3 KA.length c3):=X.cell 3;have f3:w7.cell? ⟨w.heap.size+1,3,none⟩=some (.slice A6 KB.length c6):=A.cell 3;have ef:=X.frozen;have ff:=A.frozen;have fo:=(X.set 3 (.slice none 0 0)).far (p:=⟨w.heap.size+1,3,none⟩) (by show w.heap.size≠w.heap.size+1;omega) (.slice none 0 0);have fp:=(A.far (p:=⟨w.heap.size,3,none⟩) (by show w.heap.size+1≠w.heap.size;omega) (.slice none 0 0)).set 3 (.slice none 0 0);have V:Below w.heap.size w _:=(bv.setCell (p:=⟨w.heap.size,3,none⟩) zl (.slice none 0 0)).setCell (p:=⟨w.heap.size+1,3,none⟩) (by show w.heap.size<=w.heap.size+1;omega) (.slice none 0 0);have hv:=de.trans (dw.mono (by omega));have cv:∀b,b≠w.heap.size->b≠w.heap.size+1->((w7.setCell ⟨w.heap.size,3,none⟩ (.slice none 0 0)).setCell ⟨w.heap.size+1,3,none⟩ (.slice none 0 0)).heap[b]? = w7.heap[b]?:=fun b h1 h2=>by
  rw[Below.heap_setCell _ ⟨w.heap.size+1,3,none⟩ _ b h2,Below.heap_setCell _ ⟨w.heap.size,3,none⟩ _ b h1]
 have ku:((w7.setCell ⟨w.heap.size,3,none⟩ (.slice none 0 0)).setCell ⟨w.heap.size+1,3,none⟩ (.slice none 0 0)).heap.size=w7.heap.size:=by rw[World.size_setCell,World.size_setCell]
 have k5:(w7.setCell ⟨w.heap.size,3,none⟩ (.slice none 0 0)).cell? ⟨w.heap.size+1,3,none⟩=some (.slice A6 KB.length c6):=(A.far (p:=⟨w.heap.size,3,none⟩) (by show w.heap.size+1≠w.heap.size;omega) (.slice none 0 0)).cell 3;have k6:=(A.far (p:=⟨w.heap.size,3,none⟩) (by show w.heap.size+1≠w.heap.size;omega) (.slice none 0 0)).frozen;have g3:=tab_put (A.far (p:=⟨w.heap.size,3,none⟩) (by show w.heap.size+1≠w.heap.size;omega) (.slice none 0 0)) rfl (.slice none 0 0) (tab_put X rfl (.slice none 0 0) (dj.out.below hv (by omega)));have g5:=tab_put (A.far (p:=⟨w.heap.size,3,none⟩) (by show w.heap.size+1≠w.heap.size;omega) (.slice none 0 0)) rfl (.slice none 0 0) (tab_put X rfl (.slice none 0 0) (br.out.below hv (by omega)));obtain⟨lc,lf,a7,a8,e9,dk,dl⟩:=zz7 X A fo fp cv g3 g5;clear X A fo fp cv g3 g5;go_upto_region 9 with fail;all_goals try omega
 obtain⟨w8,il⟩:∃w8,(w7.setCell ⟨w.heap.size,3,none⟩ (.slice none 0 0)).setCell ⟨w.heap.size+1,3,none⟩ (.slice none 0 0)=w8:=⟨_,rfl⟩;rw[il]at a7 a8 dk dl V e9 ku ⊢;have a0:w8.cell? ⟨w.heap.size,0,none⟩=some (.int .i64 (n:Int)):=a7.out.cell 0;have a1:w8.cell? ⟨w.heap.size,1,none⟩=some (.slice A1 TA.length c1):=a7.out.cell 1;have a2:w8.cell? ⟨w.heap.size,2,none⟩=some (.slice A2 PA.length c2):=a7.out.cell 2;have a3:w8.cell? ⟨w.heap.size,3,none⟩=some (.slice none 0 0):=a7.out.cell 3;have b0:w8.cell? ⟨w.heap.size+1,0,none⟩=some (.int .i64 (k:Int)):=a8.out.cell 0;have b1:w8.cell? ⟨w.heap.size+1,1,none⟩=some (.slice A4 TB.length c4):=a8.out.cell 1;have b2:w8.cell? ⟨w.heap.size+1,2,none⟩=some (.slice A5 PB.length c5):=a8.out.cell 2;have b3:w8.cell? ⟨w.heap.size+1,3,none⟩=some (.slice none 0 0):=a8.out.cell 3;clear il e3 f3 ef ff k5 k6;have ik:=two45_calls (w:=w8) (B:=B) (Ak:=none) (Bk':=none) (la:=0) (ca:=0) (lb:=0) (cb:=0) (n:=n) (k:=k) (by omega) (iv.out.below zaaq (V.mono hB0)) (ir.out.below zaaq (V.mono hB0)) (iw.out.below zaaq (V.mono hB0)) (it.out.below zaaq (V.mono hB0)) (by omega) (by omega) (by omega) (by omega) (by omega) (by omega)
  (fun i hi=>by have:=tri_rng U.out hi;omega)
 have jb:=zz ik;clear ik;go_wp2_with fail;all_goals try omega
 refine jb.out.mono ?_;rintro e C ⟨⟨sv,pv,rfl,cw,cu⟩,F⟩;have kv:=F.size;have l:=V.trans (F.mono V.size);obtain⟨S,hS⟩:∃S,duo (n:Int) TA TB=S:=⟨_,rfl⟩;obtain⟨R,hR⟩:∃R,PA++PB=R:=⟨_,rfl⟩;have hy:S.length=TA.length+TB.length:=by rw[<- hS];exact Zi8 _ _ _
 have hw:R.length=PA.length+PB.length:=by rw[<- hR];exact zA ..
 rw[hS]at cw;rw[hR]at cu;obtain⟨E1,e1,rfl,n9⟩:=cw.form;obtain⟨E2,e2,rfl,na⟩:=cu.form;generalize hz:S.length=sl at *;generalize hx:R.length=rl at *;have ni:sl<=80:=by omega
 have nh:rl<=320:=by omega
 obtain⟨lp,lm⟩:=zz2 hy hw;clear hy hw;obtain⟨f,bi⟩:∃f,C.alloc (.cells #[.int .i64 ((n:Int)+(k:Int)),.slice E1 sl e1,.slice E2 rl e2,.slice none 0 0] 67)=f:=⟨_,rfl⟩;have M:Below C.heap.size C f:=by rw[<- bi];exact(zr C.heap.size C).alloc zl _
 have fr:Bk f C.heap.size 67 [.int .i64 ((n:Int)+(k:Int)),.slice E1 sl e1,.slice E2 rl e2,.slice none 0 0]:=by rw[<- bi];exact Bk.new C _ _
 have mf:f.heap.size=C.heap.size+1:=by rw[<- bi];simp
 have cr:=l.trans (M.mono l.size);obtain⟨x1,nk,jk⟩:∃x1:Nat,(m1:Int).tmod (la:Int)=(x1:Int)/\x1<la:=⟨m1%la,by rw[Int.tmod_eq_emod_of_nonneg (by omega)];rfl,Nat.mod_lt _ (by omega)⟩;obtain⟨y1,nl,jl⟩:∃y1:Nat,(m2:Int).tmod (lb:Int)=(y1:Int)/\y1<lb:=⟨m2%lb,by rw[Int.tmod_eq_emod_of_nonneg (by omega)];rfl,Nat.mod_lt _ (by omega)⟩;have ia:=fun W (hW:Below f.heap.size f W)=>Ziu (w:=W) (B:=W.heap.size) (K:=[]) zl ((cw.below zaaq (M.trans (hW.mono (by omega)))).keep zaaq (zr _ _) (Nat.le_trans M.size hW.size)) ((cu.below zaaq (M.trans (hW.mono (by omega)))).keep zaaq (zr _ _) (Nat.le_trans M.size hW.size)) (Sl.nil _ _)
  (N:=(n:Int)+(k:Int)) (by unfold I64;omega) (by omega) (by omega) (by simp) (x1:Int) ((la:Int)+(y1:Int)) (m3:Int) (by unfold I64;omega) (by unfold I64;omega) (by unfold I64;omega)
 have u0:f.cell? ⟨C.heap.size,0,none⟩=some (.int .i64 ((n:Int)+(k:Int))):=fr.cell 0;clear a0 a1 a2 a3 b0 b1 b2 b3;obtain⟨ly,lx,hh,jq,iu,ln,az,en,dp⟩:=zz9 cw cu hS hR hz hx fr ia bi;clear cw cu hS hR hz hx fr ia bi;go_upto_region 10 with fail;all_goals try omega
 rw[dp.out];clear dp;go_cut [18,19] (fun s18 s19 wx=>JoinsB f ((n:Int)+(k:Int)) S R (x1:Int) ((la:Int)+(y1:Int)) (m3:Int) s18 s19 wx)
 case first =>
  have bb:=(zr f.heap.size f).drew;have im:f.drew.cell? ⟨C.heap.size,0,none⟩=some (.int .i64 ((n:Int)+(k:Int))):=u0;have o5:f.drew.cell? ⟨C.heap.size,1,none⟩=some (.slice E1 sl e1):=az.out.cell 1;have o6:f.drew.cell? ⟨C.heap.size,2,none⟩=some (.slice E2 rl e2):=az.out.cell 2;have o7:f.drew.cell? ⟨C.heap.size,3,none⟩=some (.slice none 0 0):=az.out.cell 3;have io:=bb.size;clear u0;go_wp2_with fail;refine Canon.wp_region_tree [0] (fun b9=>b9=C.heap.size) (.seg [0,1,2,3,4,5,6,7,8,9,10,11,12] (.alt 13 (.seg [14,15,16] (.alt 17 (.alt 18 (.seg [19] .fin) .no) .no)) (.alt 17 (.alt 13 (.seg [14,15,16] (.alt 18 (.seg [19] .fin) .no)) .no) .no))) mixed (by kernel_rfl) ?_;generalize f.drew=o at *;refine Canon.tr_seg ?_;simp only[zm,zg];go_wp2_with fail;all_goals try omega
  refine Canon.tr_to (Canon.tr_alt ?_ (Canon.tr_one ?_))
  ·have hj:=en.out o bb;have em:=zz hj;clear hj;simp only[zg];go_wp2_with fail;refine em.out.mono ?_;rintro e q ⟨⟨v,c,rfl,D,ct,u⟩,a⟩;obtain⟨x0,D1,D2,D3,l1,l2,l3,d1,d2,d3,rfl⟩:=Zuy ct u;have bk:=a.size;have bc:=bb.trans (a.mono bb.size);obtain⟨ax,b7⟩:=zz2 D u;clear D u;clear ct;go_wp2_with fail;refine Canon.tr_end (fun b9 j=>a.block b9 (by subst j;omega)) (Canon.tr_seg ?_);simp only[zm,zg];go_wp2_with fail;refine Canon.tr_to (Canon.tr_one ?_);simp only[zg];go_wp2_with fail;have ac:=(zr q.heap.size q).alloc zl (.cells #[.int .i64 0,.slice none 0 0,.slice none 0 0,.slice none 0 0] 67);refine Canon.tr_end (fun b9 j=>(ac.block b9 (by subst j;omega)).trans (a.block b9 (by subst j;omega))) (Canon.tr_one ?_);simp only[zg];go_wp2_with fail;have fj:=Bk.new q 67 [.int .i64 x0,.slice D1 l1 d1,.slice D2 l2 d2,.slice D3 l3 d3];have E:=(zr q.heap.size q).alloc zl (.cells #[.int .i64 x0,.slice D1 l1 d1,.slice D2 l2 d2,.slice D3 l3 d3] 67);have aa:JoinsB f ((n:Int)+(k:Int)) S R (x1:Int) ((la:Int)+(y1:Int)) (m3:Int) (.pointer (some ⟨q.heap.size,0,none⟩)) (.int .i64 c) (q.alloc (.cells #[.int .i64 x0,.slice D1 l1 d1,.slice D2 l2 d2,.slice D3 l3 d3] 67)):=⟨_,_,_,_,_,_,_,_,_,_,_,_,rfl,rfl,bc.size,fj,bc.trans (E.mono bc.size),ax.out,fun h0=>b7.out h0 _ fun b _ h2=>E.block b h2⟩;clear fj;have b6:=zz aa;clear aa;refine Canon.tr_end (fun b9 j=>(E.block b9 (by subst j;omega)).trans (a.block b9 (by subst j;omega))) (Canon.tr_seg ?_);simp only[zm,zg];go_wp2_with fail;refine Canon.tr_to (Canon.tr_fin (by rfl) (zF ⟨.inl ⟨_,rfl,rfl,by rw[im];rfl⟩,fun _ h=>by cases h⟩) ?_);go_wp2_with fail;go_meet;exact b6.out
  ·simp only[zg];go_wp2_with fail;have ie:=Bk.new o 67 [.int .i64 0,.slice none 0 0,.slice none 0 0,.slice none 0 0];have be:=(zr o.heap.size o).alloc zl (.cells #[.int .i64 0,.slice none 0 0,.slice none 0 0,.slice none 0 0] 67);have mm:(o.alloc (.cells #[.int .i64 0,.slice none 0 0,.slice none 0 0,.slice none 0 0] 67)).heap.size=o.heap.size+1:=by simp
   generalize o.alloc (.cells #[.int .i64 0,.slice none 0 0,.slice none 0 0,.slice none 0 0] 67)=W1 at *;have hj:=en.out W1 (bb.trans (be.mono io));obtain⟨em,j4⟩:=zz2 hj ie;clear hj ie;refine Canon.tr_end (fun b9 j=>be.block b9 (by subst j;omega)) (Canon.tr_one ?_);simp only[zg];go_wp2_with fail;refine em.out.mono ?_;rintro e q ⟨⟨v,c,rfl,D,ct,u⟩,a⟩;obtain⟨x0,D1,D2,D3,l1,l2,l3,d1,d2,d3,rfl⟩:=Zuy ct u;have bk:=a.size;have G:=j4.out.below a (by omega);have bc:=bb.trans ((be.trans (a.mono (by omega))).mono bb.size);obtain⟨ax,b7⟩:=zz2 D u;clear D u;clear ct;go_wp2_with fail;refine Canon.tr_end (fun b9 j=>(a.block b9 (by subst j;omega)).trans (be.block b9 (by subst j;omega))) (Canon.tr_seg ?_);simp only[zm,zg];go_wp2_with fail;have s0:q.cell? ⟨o.heap.size,0,none⟩=some (.int .i64 0):=G.cell 0;have ny:q.cell? ⟨o.heap.size,1,none⟩=some (.slice none 0 0):=G.cell 1;have nz:q.cell? ⟨o.heap.size,2,none⟩=some (.slice none 0 0):=G.cell 2;have o0:q.cell? ⟨o.heap.size,3,none⟩=some (.slice none 0 0):=G.cell 3;have sf:=G.frozen;have fq:=(((G.set 0 (.int .i64 x0)).set 1 (.slice D1 l1 d1)).set 2 (.slice D2 l2 d2)).set 3 (.slice D3 l3 d3);have bh:f.heap.size<=o.heap.size:=io;have i3:=(((bc.setCell (p:=⟨o.heap.size,0,none⟩) bh (.int .i64 x0)).setCell (p:=⟨o.heap.size,1,none⟩) bh (.slice D1 l1 d1)).setCell (p:=⟨o.heap.size,2,none⟩) bh (.slice D2 l2 d2)).setCell (p:=⟨o.heap.size,3,none⟩) bh (.slice D3 l3 d3);have c8:∀b,b≠o.heap.size->((((q.setCell ⟨o.heap.size,0,none⟩ (.int .i64 x0)).setCell ⟨o.heap.size,1,none⟩ (.slice D1 l1 d1)).setCell ⟨o.heap.size,2,none⟩ (.slice D2 l2 d2)).setCell ⟨o.heap.size,3,none⟩ (.slice D3 l3 d3)).heap[b]? = q.heap[b]?:=fun b hb=>by
    rw[Below.heap_setCell _ ⟨o.heap.size,3,none⟩ _ b hb,Below.heap_setCell _ ⟨o.heap.size,2,none⟩ _ b hb,Below.heap_setCell _ ⟨o.heap.size,1,none⟩ _ b hb,Below.heap_setCell _ ⟨o.heap.size,0,none⟩ _ b hb]
   have aa:JoinsB f ((n:Int)+(k:Int)) S R (x1:Int) ((la:Int)+(y1:Int)) (m3:Int) (.pointer (some ⟨o.heap.size,0,none⟩)) (.int .i64 c) _:=⟨_,_,_,_,_,_,_,_,_,_,_,_,rfl,rfl,bh,fq,i3,ax.out,fun h0=>b7.out h0 _ fun b h1 _=>c8 b (by omega)⟩;clear fq i3;obtain⟨lg,b6,es⟩:=zz3 G aa c8;clear G aa c8;refine Canon.tr_to (Canon.tr_one ?_);simp only[zg];go_wp2_with fail;refine Canon.tr_end (fun b9 j=>((es.out b9 (by subst j;omega)).trans (a.block b9 (by subst j;omega))).trans (be.block b9 (by subst j;omega))) (Canon.tr_seg ?_);simp only[zm,zg];go_wp2_with fail;refine Canon.tr_to (Canon.tr_fin (by rfl) (zF ⟨.inl ⟨_,rfl,rfl,by rw[im];rfl⟩,fun _ h=>by cases h⟩) ?_);go_wp2_with fail;go_meet;exact b6.out
 case rest =>
  obtain⟨g,x0,D1,D2,D3,l1,l2,l3,d1,d2,d3,c,rfl,rfl,hg,aj,cs,D,u⟩:=hcut;obtain⟨wx,kq⟩:∃wx,wx=wc:=⟨_,rfl⟩;subst kq;have kw:=cs.size;have ap:=cr.trans (cs.mono cr.size);have kk:=joins_plain b8.out U.out gn.out gp.out (x:=x1) (y:=y1) (by rw[am.out];exact jk) (by rw[di.out];exact jl) (t:=(m3:Int)) (c:=c) (by
   rw[hh.out,jq.out,am.out,Int.natCast_add,Int.natCast_add];exact D)
  rcases kk with rfl|rfl|⟨rfl,ad⟩
  ·obtain⟨ay,ax,b7⟩:=zz3 aj D u;clear aj D u;go_wp2_with fail;all_goals try omega
   go_ret;exact⟨rfl,ap⟩
  ·obtain⟨ay,ax,b7⟩:=zz3 aj D u;clear aj D u;go_wp2_with fail;all_goals try omega
   go_ret;exact⟨rfl,ap⟩
  ·obtain⟨o4,nu,nt,cm,sY,bo,_⟩:=u rfl;have eM:((n:Int)+(k:Int)).toNat=n+k:=by omega
   have eN:(n:Int)+(k:Int)=((n+k:Nat):Int):=(Int.natCast_add n k).symm;have eL:(((la:Int)+(y1:Int))).toNat=la+y1:=by omega
   rw[eM,eL,zC,eN]at cm sY bo;rw[hh.out,am.out]at ad;obtain⟨J,hJ⟩:∃J,Za4 ((lps S ((n+k:Nat):Int) (n+k)).getD x1 []) ((lps S ((n+k:Nat):Int) (n+k)).getD (la+y1) []) (m3:Int)=J:=⟨_,rfl⟩;rw[hJ]at cm sY bo ad;obtain⟨m,hm⟩:∃m,rnk (labP J) (n+k)=m:=⟨_,rfl⟩;obtain⟨Y,hY⟩:∃Y,sewT (labP J) S=Y:=⟨_,rfl⟩;obtain⟨dt,ad⟩:=ad m Y hm.symm hY.symm;have i0:Y.length=sl:=by rw[<- hY,<- iu.out];exact Zdb _ _
   rw[hm]at cm bo;rw[hY]at sY;obtain⟨g9,kd,ke,_⟩:=agg4_inj cm;injection g9 with _ g9;subst kd;subst ke;have km:l1=sl:=(sl_len sY).trans i0;have kn:l2=m:=(sl_len bo).trans (Zuz _ _ _ _);subst g9;subst km;subst kn;have nd:=dt.nmax;have nj:=dt.tmax;have g0:wx.cell? ⟨g,0,none⟩=some (.int .i64 (l2:Int)):=aj.cell 0;have g1:wx.cell? ⟨g,1,none⟩=some (.slice D1 l1 d1):=aj.cell 1;have ig:=Znb (.slice D1 l1 d1) (l2:Int) Y wx (B:=wx.heap.size) zl sY (I64.nat (by omega));clear cm u D i0 eM eN eL;obtain⟨ay,n3,lz,aw,gj,mz,n2,n1,j7⟩:=zz9 aj sY bo dt ad hJ hm hY ig;clear aj sY bo dt ad hJ hm hY ig;go_wp2_with fail;all_goals try omega
   refine j7.out.mono ?_;rintro e H ⟨⟨zv,hk,hl,hn,rfl,ko⟩,f2⟩;rcases ko with⟨_,cc,g6,g7,g8⟩|⟨j,_⟩
   case inr=>exact absurd aw.out j
   obtain⟨gz,rfl⟩:∃g,zv=.pointer (some g):=by
    obtain⟨g,_,_,_,_,_,rfl,_⟩:=cc;exact⟨_,rfl⟩
   have jm:=f2.size;obtain⟨I,bj⟩:∃I,H.alloc (.cells #[.int .i64 hk,.int .i64 hl,.int .i64 hn] 48)=I:=⟨_,rfl⟩;have cn:Below H.heap.size H I:=by rw[<- bj];exact(zr H.heap.size H).alloc zl _
   have ic:Bk I H.heap.size 48 [.int .i64 hk,.int .i64 hl,.int .i64 hn]:=by rw[<- bj];exact Bk.new H _ _
   have mh:I.heap.size=H.heap.size+1:=by rw[<- bj];simp
   have bw:=f2.trans (cn.mono jm);have a9:=ap.trans (bw.mono ap.size);have hq:∀W,Sem.run Tryz.prog (Op.equalIn 10000 48 (.agg #[.int .i64 0,.int .i64 0,.int .i64 0]) (.agg #[.int .i64 0,.int .i64 0,.int .i64 0])) W=.ok true W:=fun _=>by kernel_rfl
   have fd:∀W,Sem.run Tryz.prog (eqGuard BinOp.neq 48 (Operand.tmp 104) (Operand.tmp 105) (.agg #[.int .i64 0,.int .i64 0,.int .i64 0]) (.agg #[.int .i64 0,.int .i64 0,.int .i64 0])) W=.ok () W:=fun _=>by kernel_rfl
   obtain⟨ch,cy,dm,dq,dr,jx,j2⟩:=zz7 cc ic g6 g7 g8 hq fd;clear cc ic g6 g7 g8 hq fd;go_upto_region 14 with fail;all_goals try omega
   try rw[bj]
   clear bj;obtain rfl:=dm.out;obtain rfl:=dq.out;obtain rfl:=dr.out;clear dm dq dr;have r0:I.cell? ⟨H.heap.size,0,none⟩=some (.int .i64 0):=cy.out.cell 0;have r1:I.cell? ⟨H.heap.size,1,none⟩=some (.int .i64 0):=cy.out.cell 1;have r2:I.cell? ⟨H.heap.size,2,none⟩=some (.int .i64 0):=cy.out.cell 2;have hq:=jx.out;have fd:=j2.out;have da:Below w8.heap.size w8 I:=(F.trans (M.mono kv)).trans ((cs.trans (bw.mono kw)).mono (by omega));have jg:B1<=w8.heap.size:=by omega
   have jh:B2<=w8.heap.size:=by omega
   have fe:=Ze7 (w:=I) (dk.out.below da jg) b8.out;have gk:=zz fe;clear fe;go_wp2_with fail;all_goals try omega
   refine gk.out.mono ?_;rintro e q ⟨⟨a0,a1,a2,a3,a4,a5,o1,C1,rfl,fy,kf,kg,i1⟩,a⟩;clear kf kg;have bk:=a.size;have jf:=da.trans (a.mono da.size);obtain rfl:=Pt.uniq b8.out fy ep.out;have fg:=Ze7 (w:=q) (dl.out.below jf jh) U.out;obtain⟨j8,ej,gl⟩:=zz3 fy i1 fg;clear fy i1 fg;go_wp2_with fail;all_goals try omega
   refine gl.out.mono ?_;rintro e kz ⟨⟨b0,b1,b2,b3,b4,b5,o2,C2,rfl,fz,i4,i5,f9⟩,ac⟩;clear i4 i5;have mi:=ac.size;obtain rfl:=Pt.uniq U.out fz er.out;have bu:=cn.trans ((a.trans (ac.mono bk)).mono (by omega));have fh:=Ze7 (w:=kz) (ch.out.below bu zl) aw.out;obtain⟨j9,el,gm⟩:=zz3 fz f9 fh;clear fz f9 fh;go_wp2_with fail;all_goals try omega
   refine gm.out.mono ?_;rintro e d ⟨⟨d0,ht,hu,ck,d4,d5,o3,C3,rfl,e5,fa,kj,fb⟩,E⟩;clear kj;have mj:=E.size;obtain⟨rfl,e4,bx⟩:=gj.out o1 o2 o3 C3 j8.out j9.out e5;rw[<- ej.out,<- el.out,<- fb]at bx;have fc:ck=(la:Int)+(lb:Int)-2:=by
    rw[fa,Zpt,zC];have j:=Zwc aw.out e5;rw[zC]at j;rw[j];have h8:=am.out;have h7:=di.out;omega
   have ga:-100000<=a5/\a5<=100000:=by
    rw[ej.out];have:=gG_bound b8.out o1 0;have e:sumI (fun s=>gG (n:Int) TA o1 s) 1=gG (n:Int) TA o1 0:=by rw[Zdc];exact Int.zero_add _
    omega
   have gb:-100000<=b5/\b5<=100000:=by
    rw[el.out];have:=gG_bound U.out o2 0;have e:sumI (fun s=>gG (k:Int) TB o2 s) 1=gG (k:Int) TB o2 0:=by rw[Zdc];exact Int.zero_add _
    omega
   have nf:(ck==(la:Int)+(lb:Int)-2)=true:=by rw[beq_iff_eq];exact fc
   have ng:(d5==a5+b5)=true:=by rw[beq_iff_eq];exact bx
   have ds:=bu.trans (E.mono bu.size);have kh:=a9.trans (((a.trans (ac.mono bk)).trans (E.mono (by omega))).mono a9.size);have nc:g<I.heap.size:=by have:=ay.out.lt;omega
   obtain⟨ja,lq,lr,ls,l9,jw⟩:=zz6 e5 fa fb fc bx e4;clear e5 fa fb fc bx e4;go_wp2_with fail;all_goals try omega
   obtain⟨ak,Z⟩:∃ak,((d.alloc (.cells #[.int .i64 a0,.int .i64 a1,.int .i64 a2,.int .i64 a3,.int .i64 a4,.int .i64 a5] 93)).alloc (.cells #[.int .i64 b0,.int .i64 b1,.int .i64 b2,.int .i64 b3,.int .i64 b4,.int .i64 b5] 93)).alloc (.cells #[.int .i64 d0,.int .i64 ht,.int .i64 hu,.int .i64 ck,.int .i64 d4,.int .i64 d5] 93)=ak:=⟨_,rfl⟩;rw[Z];have cp:Below d.heap.size d ak:=by rw[<- Z];exact(((zr d.heap.size d).alloc zl _).alloc (by simp) _).alloc (by simp;omega) _
   have fk:Bk ak d.heap.size 93 [.int .i64 a0,.int .i64 a1,.int .i64 a2,.int .i64 a3,.int .i64 a4,.int .i64 a5]:=by rw[<- Z];exact((Bk.new d _ _).alloc _).alloc _
   have fl:Bk ak (d.heap.size+1) 93 [.int .i64 b0,.int .i64 b1,.int .i64 b2,.int .i64 b3,.int .i64 b4,.int .i64 b5]:=by rw[<- Z];exact(Bk.new' (n:=d.heap.size+1) (w:=d.alloc (.cells #[.int .i64 a0,.int .i64 a1,.int .i64 a2,.int .i64 a3,.int .i64 a4,.int .i64 a5] 93)) _ _ (by simp)).alloc _
   have fm:Bk ak (d.heap.size+1+1) 93 [.int .i64 d0,.int .i64 ht,.int .i64 hu,.int .i64 ck,.int .i64 d4,.int .i64 d5]:=by rw[<- Z];exact Bk.new' (n:=d.heap.size+1+1) (w:=(d.alloc (.cells #[.int .i64 a0,.int .i64 a1,.int .i64 a2,.int .i64 a3,.int .i64 a4,.int .i64 a5] 93)).alloc (.cells #[.int .i64 b0,.int .i64 b1,.int .i64 b2,.int .i64 b3,.int .i64 b4,.int .i64 b5] 93)) _ _ (by simp)
   have mk:ak.heap.size=d.heap.size+3:=by rw[<- Z];simp
   clear Z;have h3:=ds.trans (cp.mono ds.size);have kl:=Zdv (w:=ak) (ch.out.below h3 zl) aw.out;refine kl.mono ?_;rintro e L ⟨⟨u9,D9,rfl,df⟩,bg⟩;obtain rfl:=Pt.uniq aw.out df ja.out;have ml:=bg.size;have f4:=((a.trans (ac.mono bk)).trans (E.mono (by omega))).trans (cp.mono (by omega));have co:=f4.trans (bg.mono (by omega));have e0:=bw.trans (co.mono (by omega));have P:=ay.out.below e0 ay.out.lt;have bz:=az.out.below (cs.trans (e0.mono cs.size)) az.out.lt;have aq:=fk.below bg (by omega);have ar:=fl.below bg (by omega);have au:=fm.below bg (by omega);have f8:=a9.trans (co.mono a9.size);have x0:L.cell? ⟨g,0,none⟩=some (.int .i64 (l2:Int)):=P.cell 0;have o8:L.cell? ⟨g,1,none⟩=some (.slice D1 l1 d1):=P.cell 1;have x2:L.cell? ⟨g,2,none⟩=some (.slice D2 l2 d2):=P.cell 2;have x3:L.cell? ⟨g,3,none⟩=some (.slice D3 l3 d3):=P.cell 3;have o9:L.cell? ⟨C.heap.size,1,none⟩=some (.slice E1 l1 e1):=bz.cell 1;have p3:L.cell? ⟨d.heap.size,3,none⟩=some (.int .i64 a3):=aq.cell 3;have p5:L.cell? ⟨d.heap.size,5,none⟩=some (.int .i64 a5):=aq.cell 5;have nv:L.cell? ⟨d.heap.size+1,3,none⟩=some (.int .i64 b3):=ar.cell 3;have nw:L.cell? ⟨d.heap.size+1,5,none⟩=some (.int .i64 b5):=ar.cell 5;have r3:L.cell? ⟨d.heap.size+1+1,3,none⟩=some (.int .i64 ck):=au.cell 3;have r5:L.cell? ⟨d.heap.size+1+1,5,none⟩=some (.int .i64 d5):=au.cell 5;clear r0 r1 r2 g0 g1;obtain⟨ju,jv,lu,lv,lw,jr,js,jt,l8⟩:=zz9 P bz fk fl fm aq ar au df;clear P bz fk fl fm aq ar au df;go_wp2_with fail;all_goals try omega
   go_ret;exact⟨rfl,f8⟩
