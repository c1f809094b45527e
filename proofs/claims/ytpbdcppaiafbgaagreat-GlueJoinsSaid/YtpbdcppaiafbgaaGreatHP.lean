/- Za6: a surface cut along edges: corners that belong. -/
import Derived.Test.YtpbdcppaiafbgaaGreatMP
import Derived.Test.YtpbdcppaiafbgaaGreatGA
namespace Go.Mesh
def nm(e:Int×Int):Int×Int:=(min e.1 e.2,max e.1 e.2)
theorem Ze0(a b:Int):nm (a,b)=nm (b,a):=by unfold nm;simp only[];rw[Int.min_comm,Int.max_comm]
theorem nm_eq{a b x y:Int}:nm (a,b)=nm (x,y)↔(a=x/\b=y)\/(a=y/\b=x):=by
 unfold nm;simp only[Prod.mk.injEq];omega
def ctB(T:List T3)(C:List (Int×Int))(c:Nat):Prop:=nm (vt T c,vt T (nx c))∈C
instance (T : List T3) (C : List (Int×Int)) (c : Nat) : Decidable (ctB T C c) := inferInstanceAs (Decidable (_ ∈ C))
def Shut(T:List T3)(C:List (Int×Int))(P:Nat->Prop):Prop:=∀c d,c<3*T.length->aft T c=some d->¬ctB T C d->(P c↔P d)
def Sect(T:List T3)(C:List (Int×Int))(c d:Nat):Prop:=∀P:Nat->Prop,Shut T C P->P c->P d
section
variable {N : Int} {T : List T3} {C : List (Int×Int)}
theorem Sect.refl(c:Nat):Sect T C c c:=fun _ _ h=>h
theorem Sect.trans{c d e:Nat}(h:Sect T C c d)(k:Sect T C d e):Sect T C c e:=fun P hP hc=>k P hP (h P hP hc)
theorem Sect.symm{c d:Nat}(h:Sect T C c d):Sect T C d c:=fun P hP hd=>Classical.byContradiction fun hn =>
 h (fun x=>¬P x) (fun a b ha hab hc=>not_congr (hP a b ha hab hc)) hn hd
theorem Sect.step{c d:Nat}(hc:c<3*T.length)(ha:aft T c=some d)(hn:¬ctB T C d):Sect T C c d:=fun _ hP h=>(hP c d hc ha hn).1 h
theorem Sect.vt(hs:Surf N T){c d:Nat}(h:Sect T C c d):vt T d=vt T c:=h (fun x=>Go.Mesh.vt T x=Go.Mesh.vt T c) (fun _ _ _ hab _=>by simp only[hs.aft_vt hab]) rfl
theorem Sect.lt(hs:Surf N T){c d:Nat}(hc:c<3*T.length)(h:Sect T C c d):d<3*T.length:=h (fun x=>x<3*T.length) (fun _ _ ha hab _=>⟨fun _=>(hs.aft_iff.1 hab).1,fun _=>ha⟩) hc
structure Numb (N : Int) (T : List T3) (C : List (Int×Int)) (X : List T3) (O : List Int) : Prop where
 len:X.length=T.length
 same:∀c d,c<3*T.length->d<3*T.length->(vt X c=vt X d↔Sect T C c d)
 was:∀c,c<3*T.length->∃k:Nat,vt X c=k/\O[k]? = some (vt T c)
 old:∀v:Nat,(v:Int)<N->O[v]? = some (v:Int)
 used:∀k:Nat,k<O.length->∃c,c<3*T.length/\vt X c=k
def Ztf(T:List T3)(C:List (Int×Int)):Prop:=∀c d,c<3*T.length->opp T c=some d->nm (eg T c)∈C->¬(Sect T C (nx c) (pv d)/\Sect T C (pv c) (nx d))
variable {X : List T3} {O : List Int}
theorem Numb.vtT(n:Numb N T C X O){c d:Nat}(hc:c<3*T.length)(hd:d<3*T.length)(h:vt X c=vt X d):vt T c=vt T d:=by
 obtain⟨k,e,b⟩:=n.was c hc;obtain⟨m,f,a⟩:=n.was d hd;have:k=m:=by omega
 subst this;rw[b]at a;exact Option.some.inj a
theorem Surf.over(hs:Surf N T){c d:Nat}(hc:c<3*T.length)(ho:opp T c=some d):aft T (pv c)=some (nx d)/\aft T (pv d)=some (nx c)/\d<3*T.length/\(vt T (nx d),vt T (nx (nx d)))=(vt T (pv c),vt T (nx c))/\(vt T (nx c),vt T (nx (nx c)))=(vt T (nx c),vt T (pv c)):=by
 obtain⟨a,b,e⟩:=hs.opp_iff.1 ho;refine⟨?_,?_,a,?_,?_⟩
 ·unfold aft;rw[Zcf,ho];rfl
 ·unfold aft;rw[Zcf,hs.opp_symm hc ho];rfl
 ·rw[Zf2,b,e]
 ·rw[Zf2]
theorem ct_over(hs:Surf N T){c d:Nat}(hc:c<3*T.length)(ho:opp T c=some d):(ctB T C (nx d)↔nm (eg T c)∈C)/\(ctB T C (nx c)↔nm (eg T c)∈C):=by
 obtain⟨_,_,_,a,b⟩:=hs.over hc ho;unfold ctB;rw[a,b,Ze0];exact⟨Iff.rfl,Iff.rfl⟩
theorem opp_uncut(hs:Surf N T){c d:Nat}(hc:c<3*T.length)(ho:opp T c=some d)(hn:nm (eg T c)∉C):Sect T C (nx c) (pv d)/\Sect T C (pv c) (nx d):=by
 obtain⟨a,b,e,_,_⟩:=hs.over hc ho;obtain⟨f,g⟩:=ct_over (C:=C) hs hc ho;exact⟨(Sect.step (Zaj e) b (fun h=>hn (g.1 h))).symm,Sect.step (Zaj hc) a (fun h=>hn (f.1 h))⟩
theorem Numb.eg(n:Numb N T C X O){c d:Nat}(hc:c<3*T.length)(hd:d<3*T.length)(h:eg X c=eg X d):eg T c=eg T d:=by
 unfold Go.Mesh.eg at h ⊢;simp only[Prod.mk.injEq]at h ⊢;exact⟨n.vtT (Zam hc) (Zam hd) h.1,n.vtT (Zaj hc) (Zaj hd) h.2⟩
theorem Numb.rngX(n:Numb N T C X O):∀c,c<3*X.length->0<=Go.Mesh.vt X c/\Go.Mesh.vt X c<(O.length:Nat):=fun c hc=>by
 rw[n.len]at hc;obtain⟨k,b,a⟩:=n.was c hc;have:=(List.getElem?_eq_some_iff.1 a).1;omega
theorem Numb.onceX(n:Numb N T C X O)(hs:Surf N T):∀c d,c<3*X.length->d<3*X.length->Go.Mesh.eg X c=Go.Mesh.eg X d->c=d:=fun c d hc hd h=>by
 rw[n.len]at hc hd;exact hs.once c d hc hd (n.eg hc hd h)
theorem leastFrom_ok{p:Nat->Bool}{n d:Nat}(hd:d<n)(hp:p d=true)(hu:∀e,e<n->p e=true->e=d):Zau p 0 n=some d:=by
 obtain⟨e,a⟩:=zbbq (p:=p) (k:=0) (n:=n) (c:=d) (by omega) (by omega) hp;obtain⟨_,f,b,_⟩:=(zamq _ _ _ _).1 a;rw[a,hu e (by omega) b]
theorem Numb.opp_iff(n:Numb N T C X O)(hs:Surf N T)(hp:Ztf T C){c d:Nat}(hc:c<3*T.length):opp X c=some d↔opp T c=some d/\nm (Go.Mesh.eg T c)∉C:=by
 constructor
 ·intro h;obtain⟨a,i⟩:=zarq h;rw[n.len]at a;have b:vt X (nx d)=vt X (pv c):=congrArg Prod.fst i;have f:vt X (pv d)=vt X (nx c):=congrArg Prod.snd i;have g:opp T c=some d:=hs.opp_iff.2 ⟨a,n.vtT (Zam a) (Zaj hc) b,n.vtT (Zaj a) (Zam hc) f⟩;exact⟨g,fun hm=>hp c d hc g hm ⟨(n.same _ _ (Zam hc) (Zaj a)).1 f.symm,(n.same _ _ (Zaj hc) (Zam a)).1 b.symm⟩⟩
 ·rintro⟨g,k⟩;obtain⟨a,i⟩:=opp_uncut (C:=C) hs hc g k;have j:=(hs.opp_iff.1 g).1;have b:=(n.same _ _ (Zam hc) (Zaj j)).2 a;have f:=(n.same _ _ (Zaj hc) (Zam j)).2 i;unfold opp facing;refine leastFrom_ok (by rw[n.len];exact j) ?_ fun e he h9=>?_
  ·rw[beq_iff_eq];unfold Go.Mesh.eg;rw[b,f]
  ·rw[beq_iff_eq]at h9;refine n.onceX hs e d he (by rw[n.len];exact j) ?_;rw[h9];unfold Go.Mesh.eg;rw[b,f]
theorem Numb.surf(n:Numb N T C X O)(hs:Surf N T)(hp:Ztf T C)(hO:O.length<=4096):Surf (O.length:Nat) X where
 n0:=by omega
 nmax:=by omega
 tmax:=by rw[n.len];exact hs.tmax
 rng:=n.rngX
 loop:=fun c a h=>by
  rw[n.len]at a;exact hs.loop c a (n.vtT a (Zam a) h)
 once:=n.onceX hs
 mirror:=fun i j hij hj h=>by
  rw[n.len]at hj;refine hs.mirror i j hij hj fun k hk=>?_
  obtain⟨m,B,u⟩:=h k hk;exact⟨m,B,n.vtT (by omega) (by omega) u⟩
 used:=fun v h0 h1=>by
  obtain⟨c,a,u⟩:=n.used v.toNat (by omega);exact⟨c,by rw[n.len];exact a,by omega⟩
 fan:=fun v h0 h1 P hb hstep c a hv=>by
  obtain⟨b,d,E,s⟩:=hb;rw[n.len]at d a;have z:Shut T C fun x=>x<3*T.length/\(Go.Mesh.vt X x=v->P x):=fun x y hx hxy hcut=>by
   have l:=(hs.aft_iff.1 hxy).1;have g:=Sect.step hx hxy hcut;have D:vt X x=vt X y:=(n.same x y hx l).2 g;have f:opp T (nx x)=some (pv y):=by
    unfold aft at hxy;obtain⟨o,f,rfl⟩:=Option.map_eq_some_iff.1 hxy;rw[Ze2];exact f
   have w:nm (Go.Mesh.eg T (nx x))∉C:=by
    have:=(ct_over (C:=C) hs (Zam hx) f).1;rw[Zcf]at this;exact fun h=>hcut (this.2 h)
   have A:=(n.opp_iff hs hp (Zam hx)).2 ⟨f,w⟩;have e:=(zarq A).2;have p:vt X (pv (pv y))=vt X (nx (nx x)):=congrArg Prod.snd e;rw[Zfy,Zf2]at p;have q:share X x y:=.inr (.inr (.inl p.symm));have r:share X y x:=.inr (.inl p);refine⟨fun⟨_,h⟩=>⟨l,fun hv=>hstep x y (by rw[n.len];exact hx) (by omega) (by rw[n.len];exact l) hv (h (by omega)) q⟩,
    fun⟨_,h⟩=>⟨hx,fun hv=>hstep y x (by rw[n.len];exact l) (by omega) (by rw[n.len];exact hx) hv (h (by omega)) r⟩⟩
  have t:=(n.same b c d a).1 (by omega);exact(t _ z ⟨d,fun _=>s⟩).2 hv
theorem Numb.bord(n:Numb N T C X O)(hs:Surf N T)(hp:Ztf T C){c:Nat}(hc:c<3*T.length):opp X c=none↔opp T c=none\/nm (Go.Mesh.eg T c)∈C:=by
 cases a:opp X c with
 | some d =>
  obtain⟨e,f⟩:=(n.opp_iff hs hp hc).1 a;rw[e];simp[f]
 | none =>
  simp only[true_iff];refine Classical.byContradiction fun h=>?_
  rw[not_or]at h;cases b:opp T c with
  | none=>exact h.1 b
  | some d =>
   rw[(n.opp_iff hs hp hc).2 ⟨b,h.2⟩]at a;cases a
def relab(f:Nat->Int)(n:Nat):List T3:=(List.range n).map fun i=>(f (3*i),f (3*i+1),f (3*i+2))
theorem Zbn(f:Nat->Int)(n:Nat):(relab f n).length=n:=by unfold relab;simp
theorem Zld(f:Nat->Int){n c:Nat}(hc:c<3*n):vt (relab f n) c=f c:=by
 unfold vt relab;rw[List.getD_eq_getElem?_getD,List.getElem?_map,List.getElem?_range (by omega)];show vx (f (3*(c/3)),f (3*(c/3)+1),f (3*(c/3)+2)) (c%3)=f c;have:c%3=0\/c%3=1\/c%3=2:=by omega
 rcases this with h|h|h<;>rw[h]
 ·exact congrArg f (by omega)
 ·exact congrArg f (by omega)
 ·exact congrArg f (by omega)
def Head(T:List T3)(C:List (Int×Int))(c:Nat):Prop:=∀d,d<c->¬Sect T C d c
def Zqd(T:List T3)(C:List (Int×Int))(c:Nat):Prop:=Head T C c/\∃d,d<c/\vt T d=vt T c
open Classical in
noncomputable def exV (T : List T3) (C : List (Int×Int)) (v : Int) : List Nat := (List.range (3*T.length)).filter fun c => @decide (vt T c = v /\ Zqd T C c) (Classical.propDecidable _)
noncomputable def exH (T : List T3) (C : List (Int×Int)) (k : Nat) : List Nat := (List.range k).flatMap fun v : Nat => exV T C (v : Int)
theorem mem_exV{v:Int}{c:Nat}:c∈exV T C v↔c<3*T.length/\vt T c=v/\Zqd T C c:=by
 unfold exV;rw[List.mem_filter,List.mem_range];exact and_congr_right fun _=>@decide_eq_true_iff _ (Classical.propDecidable _)
theorem mem_exH{k c:Nat}:c∈exH T C k↔∃v:Nat,v<k/\c<3*T.length/\vt T c=(v:Int)/\Zqd T C c:=by
 unfold exH;rw[List.mem_flatMap];constructor
 ·rintro⟨v,a,h⟩;obtain⟨b,d,e⟩:=mem_exV.1 h;exact⟨v,List.mem_range.1 a,b,d,e⟩
 ·rintro⟨v,a,h⟩;exact⟨v,List.mem_range.2 a,mem_exV.2 h⟩
theorem Zub(k:Nat):(exH T C k).Nodup:=by
 induction k with
 | zero=>exact List.nodup_nil
 | succ k ih =>
  unfold exH;rw[List.range_succ,List.flatMap_append];refine List.nodup_append.2 ⟨ih,?_,?_⟩
  ·simp only[List.flatMap_cons,List.flatMap_nil,List.append_nil];exact List.nodup_range.sublist List.filter_sublist
  ·intro a d b c e;subst e;simp only[List.flatMap_cons,List.flatMap_nil,List.append_nil]at c;obtain⟨v,g,_,f,_⟩:=mem_exH.1 d;have:=(mem_exV.1 c).2.1;omega
open Classical in
noncomputable def newN (N : Int) (T : List T3) (C : List (Int×Int)) (c : Nat) : Int :=
 match (exH T C N.toNat).findIdx? fun e=>decide (Sect T C e c)with
 | some i=>N+((i:Nat):Int)
 | none=>vt T c
noncomputable def newX (N : Int) (T : List T3) (C : List (Int×Int)) : List T3 := relab (newN N T C) T.length
noncomputable def newO (N : Int) (T : List T3) (C : List (Int×Int)) : List Int := (List.range N.toNat).map (fun v : Nat => (v : Int)) ++ (exH T C N.toNat).map (vt T)
theorem Zz8(T:List T3)(C:List (Int×Int)):∀c:Nat,∃d,d<=c/\Sect T C d c/\Head T C d:=fun c=>by
 induction c using Nat.strongRecOn with
 | ind c ih =>
  by_cases h:Head T C c
  ·exact⟨c,Nat.le_refl c,Sect.refl c,h⟩
  ·have:∃d,d<c/\Sect T C d c:=Classical.byContradiction fun hn=>h fun d a hs=>hn ⟨d,a,hs⟩
   obtain⟨d,a,b⟩:=this;obtain⟨e,i,f,g⟩:=ih d a;exact⟨e,by omega,f.trans b,g⟩
theorem Zm1{c d:Nat}(hc:Head T C c)(hd:Head T C d)(h:Sect T C c d):c=d:=by
 rcases Nat.lt_trichotomy c d with a|a|a
 ·exact absurd h (hd c a)
 ·exact a
 ·exact absurd h.symm (hc d a)
open Classical in
theorem Zge(c:Nat) :
  (∃i e:Nat,(exH T C N.toNat)[i]? = some e/\Sect T C e c/\newN N T C c=N+(i:Int))\/((∀e∈exH T C N.toNat,¬Sect T C e c)/\newN N T C c=vt T c):=by
 unfold newN;cases hf:(exH T C N.toNat).findIdx? fun e=>decide (Sect T C e c)with
 | none =>
  right;refine⟨fun e he=>?_,rfl⟩;have:=List.findIdx?_eq_none_iff.1 hf e he;simpa using this
 | some i =>
  left;obtain⟨hi,h1,_⟩:=List.findIdx?_eq_some_iff_getElem.1 hf;exact⟨i,_,List.getElem?_eq_getElem hi,by simpa using h1,rfl⟩
theorem Zq0{i e c:Nat}(hi:(exH T C N.toNat)[i]? = some e)(h:Sect T C e c):newN N T C c=N+(i:Int):=by
 rcases Zge (N:=N) (T:=T) (C:=C) c with⟨j,f,a,l,m⟩|⟨a,_⟩
 ·have b:=mem_exH.1 (List.mem_of_getElem? hi);have d:=mem_exH.1 (List.mem_of_getElem? a);obtain⟨_,_,_,_,b,_⟩:=b;obtain⟨_,_,_,_,d,_⟩:=d;have:=Zm1 b d (h.trans l.symm);subst this;obtain⟨n,g⟩:=List.getElem?_eq_some_iff.1 hi;obtain⟨o,k⟩:=List.getElem?_eq_some_iff.1 a;have:=(List.getElem_inj (Zub (T:=T) (C:=C) N.toNat)).1 (g.trans k.symm);rw[m,this]
 ·exact absurd h (a e (List.mem_of_getElem? hi))
theorem Zq1(hs:Surf N T){c d:Nat}(hd:∀e,e<d->vt T e≠vt T d)(h:Sect T C d c):newN N T C c=vt T c:=by
 rcases Zge (N:=N) (T:=T) (C:=C) c with⟨j,f,a,i,m⟩|⟨_,a⟩
 ·exfalso;obtain⟨_,_,_,n,k,x,l,g⟩:=mem_exH.1 (List.mem_of_getElem? a);have b:Head T C d:=fun e he hs'=>hd e he (hs'.vt hs).symm
  have:=Zm1 k b (i.trans h.symm);subst this;exact hd x l g
 ·exact a
theorem exH_lt{i e:Nat}(hi:(exH T C N.toNat)[i]? = some e):e<3*T.length:=by
 obtain⟨_,_,h,_⟩:=mem_exH.1 (List.mem_of_getElem? hi);exact h
theorem numb(hs:Surf N T):Numb N T C (newX N T C) (newO N T C):=by
 have L:=hs.n0;have n:∀c,c<3*T.length->vt (newX N T C) c=newN N T C c:=fun c g=>Zld _ g
 have s:∀v:Nat,(v:Int)<N->(newO N T C)[v]? = some (v:Int):=fun v hv=>by
  unfold newO;rw[List.getElem?_append_left (by simp;omega),List.getElem?_map,List.getElem?_range (by omega)];rfl
 have B:∀i e:Nat,(exH T C N.toNat)[i]? = some e->(newO N T C)[N.toNat+i]? = some (vt T e):=fun i e h=>by
  unfold newO;rw[List.getElem?_append_right (by simp),List.getElem?_map];simp only[List.length_map,List.length_range];rw[show N.toNat+i-N.toNat=i by omega,h];rfl
 have l:∀c,c<3*T.length->(∀e∈exH T C N.toNat,¬Sect T C e c)->∃d,(∀e,e<d->vt T e≠vt T d)/\Sect T C d c:=fun c g hno=>by
  obtain⟨d,I,a,m⟩:=Zz8 T C c;refine⟨d,fun e he hv=>?_,a⟩;have O:=hs.rng d (by omega);exact hno d (mem_exH.2 ⟨(vt T d).toNat,by omega,by omega,by omega,m,e,he,hv⟩) a
 have p:∀d d':Nat,(∀e,e<d->vt T e≠vt T d)->(∀e,e<d'->vt T e≠vt T d')->vt T d=vt T d'->d=d':=fun d d' a m b=>by
  rcases Nat.lt_trichotomy d d' with h|h|h
  ·exact absurd b (m d h)
  ·exact h
  ·exact absurd b.symm (a d' h)
 constructor
 ·exact Zbn _ _
 ·intro c d g z;rw[n c g,n d z];have u:=hs.rng c g;have J:=hs.rng d z;constructor
  ·intro h;rcases Zge (N:=N) (T:=T) (C:=C) c with⟨i,e,a,m,b⟩|⟨a,b⟩<;>rcases Zge (N:=N) (T:=T) (C:=C) d with⟨j,f,r,G,H⟩|⟨r,H⟩
   ·have:i=j:=by omega
    subst this;rw[a]at r;have:=Option.some.inj r;subst this;exact m.symm.trans G
   ·omega
   ·omega
   ·obtain⟨x,A,o⟩:=l c g a;obtain⟨y,F,w⟩:=l d z r;have:x=y:=p x y A F (by rw[<- o.vt hs,<- w.vt hs];omega);subst this;exact o.symm.trans w
  ·intro h;rcases Zge (N:=N) (T:=T) (C:=C) c with⟨i,e,a,m,b⟩|⟨a,b⟩
   ·rw[b,Zq0 a (m.trans h)]
   ·obtain⟨x,A,o⟩:=l c g a;rw[b,Zq1 hs A (o.trans h),h.vt hs]
 ·intro c g;rw[n c g];have u:=hs.rng c g;rcases Zge (N:=N) (T:=T) (C:=C) c with⟨i,e,a,m,b⟩|⟨a,b⟩
  ·exact⟨N.toNat+i,by rw[b];omega,by rw[B i e a,m.vt hs]⟩
  ·exact⟨(vt T c).toNat,by rw[b];omega,by rw[s _ (by omega),Int.toNat_of_nonneg u.1]⟩
 ·exact s
 ·intro k M;have E:(newO N T C).length=N.toNat+(exH T C N.toNat).length:=by unfold newO;simp
  rcases Nat.lt_or_ge k N.toNat with a|a
  ·obtain⟨c,g⟩:=hs.corner_some (v:=(k:Int)) (by omega) (by omega);obtain⟨_,K,q,D⟩:=(zamq _ _ _ _).1 g;have q:vt T c=(k:Int):=by simpa using q
   refine⟨c,by omega,?_⟩;rw[n c (by omega),Zq1 hs (fun e he hv=>?_) (Sect.refl c),q];have:=D e (by omega) he;rw[beq_eq_false_iff_ne]at this;exact this (hv.trans q)
  ·have hi:k-N.toNat<(exH T C N.toNat).length:=by omega
   have t:=exH_lt (C:=C) (List.getElem?_eq_getElem hi);refine⟨_,t,?_⟩;rw[n _ t,Zq0 (List.getElem?_eq_getElem hi) (Sect.refl _)];omega
end
def labL(p:Nat->Bool)(l:List Nat)(i:Nat):Nat:=((l.take (i+1)).drop 1).countP p
theorem Zl4(p:Nat->Bool)(l:List Nat):labL p l 0=0:=by
 unfold labL;cases l<;>simp
theorem Zjp{p:Nat->Bool}{l:List Nat}{i:Nat}(hi:i+1<l.length):labL p l (i+1)=labL p l i+if p l[i+1]=true then 1 else 0:=by
 unfold labL;rw[List.take_succ_eq_append_getElem hi,List.drop_append_of_le_length (by rw[List.length_take];omega),List.countP_append,List.countP_cons,List.countP_nil]
 split<;>simp_all
theorem Zc7(p:Nat->Bool)(l:List Nat){i j:Nat}(h:i<=j)(hj:j<l.length):labL p l i<=labL p l j:=by
 induction j with
 | zero=>rw[Nat.le_zero.1 h];exact Nat.le_refl _
 | succ j ih =>
  rcases Nat.lt_or_ge j i with a|a
  ·rw[show i=j+1 by omega];exact Nat.le_refl _
  ·have:=ih a (by omega);rw[Zjp hj];omega
theorem labL_lt{p:Nat->Bool}{l:List Nat}{i j:Nat}(h:i<j)(hj:j<l.length)(hp:p l[j]=true):labL p l i<labL p l j:=by
 obtain⟨k,rfl⟩:∃k,j=k+1:=⟨j-1,by omega⟩;have:=Zc7 p l (i:=i) (j:=k) (by omega) (by omega);rw[Zjp hj,if_pos hp];omega
theorem labL_eq{p:Nat->Bool}{l:List Nat}{i j:Nat}(hj:j<l.length)(h:labL p l i=labL p l j){k:Nat}(h1:i<k)(h2:k<=j):p (l[k]'(by omega))=false:=by
 cases c:p (l[k]'(by omega))with
 | false=>rfl
 | true =>
  have a:=labL_lt h1 (by omega) c;have b:=Zc7 p l h2 hj;omega
section
variable {N : Int} {T : List T3} {C : List (Int×Int)} {v : Int} {l : List Nat} {inner : Bool}
def pB(T:List T3)(C:List (Int×Int))(c:Nat):Bool:=decide (ctB T C c)
def Zjb(T:List T3)(C:List (Int×Int))(l:List Nat)(inner:Bool):Bool:=inner && !pB T C (l.getD 0 0)
def mlab(T:List T3)(C:List (Int×Int))(l:List Nat)(inner:Bool)(i:Nat):Nat :=
 if Zjb T C l inner=true/\labL (pB T C) l i=labL (pB T C) l (l.length-1)then 0 else labL (pB T C) l i
theorem Ring.nodup(r:Ring T v l inner):l.Nodup:=by obtain⟨b,a⟩:=r.run;exact a.nodup
theorem Ring.step(r:Ring T v l inner){i:Nat}(h:i+1<l.length):aft T l[i]=some l[i+1]:=by obtain⟨b,a⟩:=r.run;exact a.steps i h
theorem Ring.ne(r:Ring T v l inner):0<l.length:=by obtain⟨b,a⟩:=r.run;exact a.ne
theorem Ring.next(r:Ring T v l inner){i d:Nat}(hi:i<l.length)(ha:aft T l[i]=some d):(∃h:i+1<l.length,d=l[i+1])\/(i=l.length-1/\inner=true/\d=l[0]'r.ne):=by
 rcases Nat.lt_or_ge (i+1) l.length with h|h
 ·left;rw[r.step h]at ha;exact⟨h,(Option.some.inj ha).symm⟩
 ·right;have e:i=l.length-1:=by omega
  subst e;by_cases a:inner=false
  ·rw[(r.last r.ne).2 a]at ha;cases ha
  ·have a:inner=true:=by simpa using a
   rw[r.turn r.ne a]at ha;exact⟨rfl,a,(Option.some.inj ha).symm⟩
theorem Zav{l:List Nat}{i:Nat}(h:i<l.length):l.getD i 0=l[i]:=by rw[List.getD_eq_getElem?_getD,List.getElem?_eq_getElem h];rfl
theorem mlab_last(ho:Zjb T C l inner=true):mlab T C l inner (l.length-1)=0:=by unfold mlab;rw[if_pos ⟨ho,rfl⟩]
theorem mlab_zero(T:List T3)(C:List (Int×Int))(l:List Nat)(inner:Bool):mlab T C l inner 0=0:=by
 unfold mlab;rw[Zl4]
 split<;>rfl
theorem mlab_step{i:Nat}(h:i+1<l.length)(hp:pB T C l[i+1]=false):mlab T C l inner (i+1)=mlab T C l inner i:=by
 have:=Zjp (p:=pB T C) h;rw[hp]at this;simp only[Bool.false_eq_true,if_false,Nat.add_zero]at this;unfold mlab;rw[this]
theorem Ring.sect(r:Ring T v l inner){i j:Nat}(hi:i<l.length)(hj:j<l.length):Sect T C l[i] l[j]↔mlab T C l inner i=mlab T C l inner j:=by
 constructor
 ·intro h;have H:Shut T C fun x=>∃k,∃q:k<l.length,l[k]=x/\mlab T C l inner k=mlab T C l inner i:=fun c d hc ha hn=>by
   have A:pB T C d=false:=decide_eq_false hn;have F:c∈l↔d∈l:=by
    rw[r.mem,r.mem];have e:vt T d=vt T c:=by
     unfold aft at ha;obtain⟨o,t,rfl⟩:=Option.map_eq_some_iff.1 ha;obtain⟨_,g⟩:=zarq t;have:=congrArg Prod.fst g;rw[Ze2]at this;exact this
    have g:d<3*T.length:=by
     unfold aft at ha;obtain⟨o,t,rfl⟩:=Option.map_eq_some_iff.1 ha;exact Zam (zarq t).1
    rw[e];exact⟨fun h=>⟨g,h.2⟩,fun h=>⟨hc,h.2⟩⟩
   have B:∀a,(p:a<l.length)->l[a]=c->∃b,∃m:b<l.length,l[b]=d/\mlab T C l inner b=mlab T C l inner a:=fun a p f=>by
    subst f;rcases r.next p ha with⟨e,rfl⟩|⟨e,g,rfl⟩
    ·exact⟨a+1,e,rfl,mlab_step e A⟩
    ·refine⟨0,r.ne,rfl,?_⟩;rw[mlab_zero,e,mlab_last];unfold Zjb;rw[g,Zav r.ne,A];rfl
   constructor
   ·rintro⟨k,q,f,u⟩;obtain⟨b,m,D,E⟩:=B k q f;exact⟨b,m,D,E.trans u⟩
   ·rintro⟨k,q,f,u⟩;obtain⟨a,p,y⟩:=List.getElem_of_mem (F.2 (f ▸ List.getElem_mem q));obtain⟨b,m,D,E⟩:=B a p y;have:b=k:=(List.getElem_inj r.nodup).1 (D.trans f.symm);subst this;exact⟨a,p,y,E.symm.trans u⟩
  obtain⟨k,q,f,u⟩:=h _ H ⟨i,hi,rfl,rfl⟩;have:k=j:=(List.getElem_inj r.nodup).1 f;subst this;exact u.symm
 ·have z:∀k (q:k<l.length),l[k]<3*T.length:=fun k q=>((r.mem _).1 (List.getElem_mem q)).1
  have G:∀n a (m:a+n<l.length),labL (pB T C) l a=labL (pB T C) l (a+n)->Sect T C (l[a]'(by omega)) l[a+n]:=fun n=>by
   induction n with
   | zero=>intro a m _;exact Sect.refl _
   | succ n ih =>
    intro a m f;have e:labL (pB T C) l a=labL (pB T C) l (a+n):=Nat.le_antisymm (Zc7 _ _ (by omega) (by omega)) (by rw[f];exact Zc7 _ _ (by omega) m);have I:=labL_eq (k:=a+(n+1)) m f (by omega) (Nat.le_refl _);exact(ih a (by omega) e).trans (Sect.step (z _ _) (r.step m) (of_decide_eq_false I))
  have same:∀a b (ha:a<l.length) (m:b<l.length),labL (pB T C) l a=labL (pB T C) l b->Sect T C l[a] l[b]:=fun a b ha m f=>by
   rcases Nat.le_total a b with e|e
   ·have:=G (b-a) a (by omega) (by rw[show a+(b-a)=b by omega];exact f);simpa only[show a+(b-a)=b by omega]using this
   ·have:=G (a-b) b (by omega) (by rw[show b+(a-b)=a by omega];exact f.symm);exact(by simpa only[show b+(a-b)=a by omega]using this:Sect T C l[b] l[a]).symm
  have s:=r.ne;have w:Zjb T C l inner=true->Sect T C (l[l.length-1]'(by omega)) (l[0]'s):=fun t=>by
   unfold Zjb at t;rw[Bool.and_eq_true,Bool.not_eq_true',Zav s]at t;exact Sect.step (z _ _) (r.turn s t.1) (of_decide_eq_false t.2)
  intro h;unfold mlab at h;by_cases e:Zjb T C l inner=true/\labL (pB T C) l i=labL (pB T C) l (l.length-1)<;>by_cases g:Zjb T C l inner=true/\labL (pB T C) l j=labL (pB T C) l (l.length-1)
  ·exact same i j hi hj (e.2.trans g.2.symm)
  ·rw[if_pos e,if_neg g]at h;exact((same i _ hi (by omega) e.2).trans (w e.1)).trans (same 0 j s hj (by rw[Zl4,h]))
  ·rw[if_neg e,if_pos g]at h;exact((same j _ hj (by omega) g.2).trans ((w g.1).trans (same 0 i s hi (by rw[Zl4,h])))).symm
  ·rw[if_neg e,if_neg g]at h;exact same i j hi hj h
theorem Ring.parts(r:Ring T v l inner){x y:Nat}(hx:x∈l)(ha:aft T x=some y)(hc:ctB T C y)(h:inner=false\/∃z∈l,z≠y/\ctB T C z):¬Sect T C x y:=by
 obtain⟨i,hi,rfl⟩:=List.getElem_of_mem hx;have d:=r.ne;have n:pB T C y=true:=decide_eq_true hc;rcases r.next hi ha with⟨g,rfl⟩|⟨g,q,rfl⟩
 ·rw[r.sect hi g];have e:=Zjp (p:=pB T C) g;rw[if_pos n]at e;have t:=Zc7 (pB T C) l (i:=i+1) (j:=l.length-1) (by omega) (by omega);unfold mlab;rw[if_neg (by omega)]
  split
  ·rename_i hm;rcases h with h|⟨z,o,f,c⟩
   ·unfold Zjb at hm;rw[h]at hm;exact absurd hm.1 (by simp)
   ·intro u;obtain⟨j,m,rfl⟩:=List.getElem_of_mem o;have a:pB T C l[j]=true:=decide_eq_true c;rcases Nat.lt_trichotomy j (i+1)with k|k|k
    ·rcases Nat.eq_zero_or_pos j with b|b
     ·subst b;unfold Zjb at hm;rw[Zav d,a]at hm;simp at hm
     ·have:=labL_lt b m a;have:=Zc7 (pB T C) l (i:=j) (j:=i) (by omega) (by omega);omega
    ·subst k;exact f rfl
    ·have:=labL_lt k m a;have:=Zc7 (pB T C) l (i:=j) (j:=l.length-1) (by omega) (by omega);omega
  ·omega
 ·rw[r.sect hi d,mlab_zero];rcases h with h|⟨z,o,f,c⟩
  ·rw[h]at q;cases q
  ·obtain⟨j,m,rfl⟩:=List.getElem_of_mem o;have a:pB T C l[j]=true:=decide_eq_true c;have s:0<j:=by
    rcases Nat.eq_zero_or_pos j with b|b
    ·subst b;exact absurd rfl f
    ·exact b
   have:=labL_lt s m a;have:=Zc7 (pB T C) l (i:=j) (j:=l.length-1) (by omega) (by omega);unfold mlab Zjb;rw[Zav d,n,g];simp only[Bool.not_true,Bool.and_false,Bool.false_eq_true,false_and,if_false];omega
def Zbr(L:List (Int×Int))(v:Int):Nat:=L.countP fun e=>e.1==v || e.2==v
def Zc6(N:Int)(T:List T3)(L:List (Int×Int))(e:Int×Int):Bool:=decide (Zbr L e.1<=1)&&Zae T N e.1&&(decide (Zbr L e.2<=1)&&Zae T N e.2)
structure Good (T : List T3) (L : List (Int×Int)) : Prop where
 two:∀e∈L,(∃c,facing T e=some c)/\∃d,facing T (e.2,e.1)=some d
 once:(L.map nm).Nodup
theorem Zsd{α:Type}{p:α->Bool}:∀ {l:List α},1<l.countP p->∀a∈l,p a=true->∃i j,∃hi:i<l.length,∃d:j<l.length,i≠j/\l[i]=a/\p l[j]=true
 | [],h,_,_,_=>by simp at h
 | x::l,h,a,c,hp=>by
  rw[List.countP_cons]at h;rcases List.mem_cons.1 c with rfl|c
  ·rw[if_pos hp]at h;have:0<l.countP p:=by omega
   obtain⟨b,m,e⟩:=List.countP_pos_iff.1 this;obtain⟨j,d,rfl⟩:=List.getElem_of_mem m;exact⟨0,j+1,by simp,by simp;omega,by omega,rfl,e⟩
  ·cases f:p x with
   | true =>
    obtain⟨j,d,rfl⟩:=List.getElem_of_mem c;exact⟨j+1,0,by simp;omega,by simp,by omega,rfl,f⟩
   | false =>
    rw[f]at h;obtain⟨i,j,hi,d,n,g,k⟩:=Zsd (l:=l) (by simpa using h) a c hp;exact⟨i+1,j+1,by simp;omega,by simp;omega,by omega,g,k⟩
theorem Ztx{a b:Int}{c:Nat}(h:facing T (a,b)=some c):nx c<3*T.length/\vt T (nx c)=a/\vt T (nx (nx c))=b:=by
 obtain⟨e,d⟩:=zarq h;exact⟨Zam e,congrArg Prod.fst d,by rw[Zf2];exact congrArg Prod.snd d⟩
theorem Good.corner{L:List (Int×Int)}(g:Good T L){e:Int×Int}(he:e∈L){v:Int}(hv:e.1=v\/e.2=v):∃c,c<3*T.length/\vt T c=v/\nm (vt T c,vt T (nx c))=nm e:=by
 obtain⟨⟨c,j⟩,d,k⟩:=g.two e he;rcases hv with rfl|rfl
 ·obtain⟨h,f,i⟩:=Ztx (a:=e.1) (b:=e.2) j;exact⟨_,h,f,by rw[f,i]⟩
 ·obtain⟨h,f,i⟩:=Ztx k;exact⟨_,h,f,by rw[f,i,Ze0]⟩
theorem parts_of(hs:Surf N T){L:List (Int×Int)}(g:Good T L)(hi:∀e∈L,Zc6 N T L e=false):Ztf T (L.map nm):=fun c d hc ho hm=>by
 obtain⟨e,B,v⟩:=List.mem_map.1 hm;obtain⟨s,n,A,t,u⟩:=hs.over hc ho;obtain⟨M,O⟩:=ct_over (C:=L.map nm) hs hc ho;have p:=M.2 hm;have o:=O.2 hm;have q:∃w,(e.1=w\/e.2=w)/\(Zae T N w=false\/1<Zbr L w):=by
  have:=hi e B;unfold Zc6 at this;rw[Bool.and_eq_false_iff,Bool.and_eq_false_iff,Bool.and_eq_false_iff,decide_eq_false_iff_not,decide_eq_false_iff_not]at this;rcases this with(h|h)|(h|h)
  ·exact⟨_,.inl rfl,.inr (by omega)⟩
  ·exact⟨_,.inl rfl,.inl h⟩
  ·exact⟨_,.inr rfl,.inr (by omega)⟩
  ·exact⟨_,.inr rfl,.inl h⟩
 obtain⟨w,r,F⟩:=q;have k:∀x y,aft T x=some y->ctB T (L.map nm) y->nm (vt T y,vt T (nx y))=nm e->vt T x=w->x<3*T.length->¬Sect T (L.map nm) x y:=fun x y ha hcy hye hxw hx=>by
  have G:=hs.rng x hx;rw[hxw]at G;obtain⟨_,a⟩:=hs.ring_in G;refine a.parts ((a.mem x).2 ⟨hx,hxw⟩) ha hcy ?_;rcases F with h|h
  ·exact .inl h
  ·right;unfold Zbr at h;obtain⟨i,j,D,m,E,l,f⟩:=Zsd h e B (by rcases r with h|h<;>rw[h]<;>simp);have f:(L[j]).1=w\/(L[j]).2=w:=by simpa using f
   obtain⟨z,P,Q,J⟩:=g.corner (List.getElem_mem m) f;refine⟨z,(a.mem z).2 ⟨P,Q⟩,fun h9=>?_,?_⟩
   ·subst h9;rw[J,<- l]at hye;have K:(L.map nm)[i]'(by rw[List.length_map];exact D)=(L.map nm)[j]'(by rw[List.length_map];exact m):=by rw[List.getElem_map,List.getElem_map];exact hye.symm
    exact E ((List.getElem_inj g.once).1 K)
   ·unfold ctB;rw[J];exact List.mem_map_of_mem (List.getElem_mem m)
 rintro⟨H,I⟩;have b:nm (vt T (nx c),vt T (pv c))=nm e:=v.symm;rcases nm_eq.1 (show nm (vt T (nx c),vt T (pv c))=nm (e.1,e.2)from b)with⟨l,f⟩|⟨l,f⟩
 ·rcases r with h|h
  ·
   exact k _ _ n o (by rw[u];exact b) (by have:=hs.aft_vt n;rw[<- this,l,h]) (Zaj A) H.symm
  ·exact k _ _ s p (by rw[t,Ze0];exact b) (by rw[f,h]) (Zaj hc) I
 ·rcases r with h|h
  ·exact k _ _ s p (by rw[t,Ze0];exact b) (by rw[f,h]) (Zaj hc) I
  ·exact k _ _ n o (by rw[u];exact b) (by have:=hs.aft_vt n;rw[<- this,l,h]) (Zaj A) H.symm
end
theorem gindH{α:Type}{motive:List α->Prop}(h1:∀l a,(0<l.length->motive l)->0<(l++[a]).length->motive (l++[a])):∀l,0<l.length->motive l:=fun l=>by
 have b:∀m:List α,0<m.reverse.length->motive m.reverse:=fun m=>by
  induction m with
  | nil=>intro h;simp at h
  | cons a m ih=>intro h;rw[List.reverse_cons]at h ⊢;exact h1 _ a ih h
 have:=b l.reverse
 rwa [List.reverse_reverse]at this
def splS(p:Nat->Bool)(s:List (List Nat)×List Nat)(c:Nat):List (List Nat)×List Nat :=
 if s.2.length=0 then(s.1,s.2++[c])else if p c=true then(s.1++[s.2],[c])else(s.1,s.2++[c])
def splL(p:Nat->Bool)(l:List Nat):List (List Nat)×List Nat:=l.foldl (splS p) ([],[])
theorem Zg2(p:Nat->Bool)(l:List Nat)(c:Nat):splL p (l++[c])=splS p (splL p l) c:=by unfold splL;rw[List.foldl_append];rfl
theorem labL_snoc(p:Nat->Bool)(l:List Nat)(c:Nat){i:Nat}(hi:i<l.length):labL p (l++[c]) i=labL p l i:=by
 unfold labL;rw[List.take_append_of_le_length (by omega)]
def RowsBy(f:Nat->Nat)(l:List Nat)(R:List (List Nat)):Prop:=∀r row,R[r]? = some row->row≠[]/\∀c,c∈row↔∃i,∃h:i<l.length,l[i]=c/\f i=r
theorem Zpq(p:Nat->Bool):∀l:List Nat,0<l.length->(splL p l).2≠[]/\((splL p l).1++[(splL p l).2]).length=labL p l (l.length-1)+1/\RowsBy (labL p l) l ((splL p l).1++[(splL p l).2]):=by
 refine gindH fun l c ih=>?_
 intro _;rcases Nat.eq_zero_or_pos l.length with B|B
 ·have:l=[]:=List.length_eq_zero_iff.1 B;subst this;refine⟨by simp[splL,splS],by simp[splL,splS,labL],fun r row hr=>?_⟩;have e:(splL p ([]++[c])).1++[(splL p ([]++[c])).2]=[[c]]:=by simp[splL,splS]
  rw[e]at hr;cases r with
  | succ r=>simp at hr
  | zero =>
   have:[c]=row:=by simpa using hr
   subst this;refine⟨by simp,fun x=>?_⟩;constructor
   ·intro t;have:x=c:=by simpa using t
    subst this;exact⟨0,by simp,rfl,Zl4 _ _⟩
   ·rintro⟨i,hi,u,_⟩;have:i=0:=by simp at hi;exact hi
    subst this;simp at u;simp[u]
 ·obtain⟨u,v,C⟩:=ih B;have a:labL p (l++[c]) ((l++[c]).length-1)=labL p l (l.length-1)+if p c=true then 1 else 0:=by
   have:=Zjp (p:=p) (l:=l++[c]) (i:=l.length-1) (by simp;omega);have e:(l++[c])[l.length-1+1]'(by simp;omega)=c:=by
    have:(l++[c])[l.length-1+1]? = some c:=by rw[show l.length-1+1=l.length by omega];simp
    exact(List.getElem?_eq_some_iff.1 this).2
   have D:labL p (l++[c]) (l.length-1)=labL p l (l.length-1):=labL_snoc p l c (by omega);rw[e,D]at this;rw[show(l++[c]).length-1=l.length-1+1 by simp;omega,this]
  have d:∀i,i<l.length->labL p (l++[c]) i=labL p l i:=fun i hi=>labL_snoc p l c hi
  have o:∀i,(h:i<(l++[c]).length)->(∃g:i<l.length,(l++[c])[i]=l[i])\/(i=l.length/\(l++[c])[i]=c):=fun i h=>by
   rcases Nat.lt_or_ge i l.length with k|k
   ·exact .inl ⟨k,List.getElem_append_left k⟩
   ·right;have:i=l.length:=by simp at h;omega
    subst this;exact⟨rfl,by simp⟩
  have n:(l++[c]).length-1=l.length:=by simp
  rw[n]at a;rw[Zg2];have z:(splL p l).2.length≠0:=fun h=>u (List.length_eq_zero_iff.1 h)
  cases w:p c with
  | true =>
   rw[w,if_pos rfl]at a;have e:splS p (splL p l) c=((splL p l).1++[(splL p l).2],[c]):=by unfold splS;rw[if_neg z,if_pos w]
   rw[e];refine⟨by simp,by rw[n,List.length_append,v,a];rfl,fun r row hr=>?_⟩;rcases Nat.lt_or_ge r ((splL p l).1++[(splL p l).2]).length with k|k
   ·rw[List.getElem?_append_left k]at hr;obtain⟨A,s⟩:=C r row hr;refine⟨A,fun x=>(s x).trans ⟨?_,?_⟩⟩
    ·rintro⟨i,hi,b,f⟩;exact⟨i,by simp;omega,by rw[List.getElem_append_left hi];exact b,by rw[d i hi];exact f⟩
    ·rintro⟨i,hi,b,f⟩;rcases o i hi with⟨g,m⟩|⟨rfl,_⟩
     ·exact⟨i,g,by rw[<- m];exact b,by rw[<- d i g];exact f⟩
     ·omega
   ·have q:r=labL p l (l.length-1)+1:=by
     have:=(List.getElem?_eq_some_iff.1 hr).1;rw[List.length_append]at this;simp only[List.length_cons,List.length_nil]at this;omega
    rw[List.getElem?_append_right k,v,q,Nat.sub_self]at hr;have:[c]=row:=by simpa using hr
    subst this;refine⟨by simp,fun x=>⟨fun t=>?_,?_⟩⟩
    ·have:x=c:=by simpa using t
     subst this;exact⟨l.length,by simp,by simp,by rw[a,q]⟩
    ·rintro⟨i,hi,b,f⟩;rcases o i hi with⟨g,m⟩|⟨rfl,m⟩
     ·have:=Zc7 p l (i:=i) (j:=l.length-1) (by omega) (by omega);rw[d i g]at f;omega
     ·rw[m]at b;simp[b]
  | false =>
   rw[w]at a;simp only[Bool.false_eq_true,if_false,Nat.add_zero]at a;have e:splS p (splL p l) c=((splL p l).1,(splL p l).2++[c]):=by unfold splS;rw[if_neg z,w];rfl
   rw[e];have y:(splL p l).1.length=labL p l (l.length-1):=by
    rw[List.length_append]at v;simp only[List.length_cons,List.length_nil]at v;omega
   refine⟨by simp,by rw[n,List.length_append,a,y];rfl,fun r row hr=>?_⟩;rcases Nat.lt_or_ge r (splL p l).1.length with k|k
   ·rw[List.getElem?_append_left k]at hr;obtain⟨A,s⟩:=C r row (by rw[List.getElem?_append_left k];exact hr);refine⟨A,fun x=>(s x).trans ⟨?_,?_⟩⟩
    ·rintro⟨i,hi,b,f⟩;exact⟨i,by simp;omega,by rw[List.getElem_append_left hi];exact b,by rw[d i hi];exact f⟩
    ·rintro⟨i,hi,b,f⟩;rcases o i hi with⟨g,m⟩|⟨rfl,_⟩
     ·exact⟨i,g,by rw[<- m];exact b,by rw[<- d i g];exact f⟩
     ·omega
   ·have q:r=(splL p l).1.length:=by
     have:=(List.getElem?_eq_some_iff.1 hr).1;rw[List.length_append]at this;simp only[List.length_cons,List.length_nil]at this;omega
    subst q;have:(splL p l).2++[c]=row:=by simpa using hr
    subst this;obtain⟨_,s⟩:=C (splL p l).1.length (splL p l).2 (by simp);refine⟨by simp,fun x=>?_⟩;rw[List.mem_append,s x];constructor
    ·rintro(⟨i,hi,b,f⟩|t)
     ·exact⟨i,by simp;omega,by rw[List.getElem_append_left hi];exact b,by rw[d i hi];exact f⟩
     ·have:x=c:=by simpa using t
      subst this;exact⟨l.length,by simp,by simp,by rw[a,y]⟩
    ·rintro⟨i,hi,b,f⟩;rcases o i hi with⟨g,m⟩|⟨rfl,m⟩
     ·exact .inl ⟨i,g,by rw[<- m];exact b,by rw[<- d i g];exact f⟩
     ·right;rw[m]at b;simp[b]
def mrgL(o:Bool)(R:List (List Nat)):List (List Nat):=if o=true/\1<R.length then(R.set 0 (R.getD (R.length-1) []++R.getD 0 [])).take (R.length-1)else R
section
variable {N : Int} {T : List T3} {C : List (Int×Int)} {v : Int} {l : List Nat} {inner : Bool}
def Zpm(T:List T3)(C:List (Int×Int))(l:List Nat)(inner:Bool):List (List Nat):=mrgL (Zjb T C l inner) ((splL (pB T C) l).1++[(splL (pB T C) l).2])
theorem Ring.rows(r:Ring T v l inner):RowsBy (mlab T C l inner) l (Zpm T C l inner)/\∀i,i<l.length->mlab T C l inner i<(Zpm T C l inner).length:=by
 obtain⟨_,w,n⟩:=Zpq (pB T C) l r.ne;unfold Zpm mrgL;generalize x:(splL (pB T C) l).1++[(splL (pB T C) l).2]=R at *
 split
 ·rename_i m;obtain⟨m,y⟩:=m;have f:∀i,mlab T C l inner i=if labL (pB T C) l i=labL (pB T C) l (l.length-1)then 0 else labL (pB T C) l i:=fun i=>by unfold mlab;rw[m];simp
  have s:((R.set 0 (R.getD (R.length-1) []++R.getD 0 [])).take (R.length-1)).length=R.length-1:=by rw[List.length_take,List.length_set];omega
  refine⟨fun q row d=>?_,fun i hi=>?_⟩
  ·have p:=(List.getElem?_eq_some_iff.1 d).1;rw[s]at p;rw[List.getElem?_take_of_lt p]at d;by_cases o:q=0
   ·subst o;rw[List.getElem?_set_self (by omega)]at d;have d:=(Option.some.inj d).symm;obtain⟨g,k⟩:=n 0 _ (List.getElem?_eq_getElem (by omega));obtain⟨u,t⟩:=n (R.length-1) _ (List.getElem?_eq_getElem (by omega));rw[List.getD_eq_getElem?_getD,List.getD_eq_getElem?_getD,List.getElem?_eq_getElem (show 0<R.length by omega),List.getElem?_eq_getElem (show R.length-1<R.length by omega)]at d;simp only[Option.getD_some]at d;subst d;refine⟨fun h=>g (List.append_eq_nil_iff.1 h).2,fun c=>?_⟩;rw[List.mem_append,k c,t c];constructor
    ·rintro(⟨i,hi,b,a⟩|⟨i,hi,b,a⟩)
     ·exact⟨i,hi,b,by rw[f,if_pos (by omega)]⟩
     ·exact⟨i,hi,b,by rw[f];split<;>omega⟩
    ·rintro⟨i,hi,b,a⟩;rw[f]at a
     split at a
     ·rename_i g3;exact .inl ⟨i,hi,b,by omega⟩
     ·exact .inr ⟨i,hi,b,a⟩
   ·rw[List.getElem?_set_ne (fun e=>o e.symm)]at d;obtain⟨g,k⟩:=n q row d;refine⟨g,fun c=>(k c).trans ⟨?_,?_⟩⟩
    ·rintro⟨i,hi,b,a⟩;exact⟨i,hi,b,by rw[f,if_neg (by omega)];exact a⟩
    ·rintro⟨i,hi,b,a⟩;rw[f]at a
     split at a
     ·omega
     ·exact⟨i,hi,b,a⟩
  ·rw[s,f];have:=Zc7 (pB T C) l (i:=i) (j:=l.length-1) (by omega) (by omega)
   split<;>omega
 ·rename_i hn;have f:∀i,i<l.length->mlab T C l inner i=labL (pB T C) l i:=fun i hi=>by
   unfold mlab
   split
   ·rename_i m;have:R.length<=1:=by
     refine Classical.byContradiction fun h=>hn ⟨m.1,by omega⟩
    have:=Zc7 (pB T C) l (i:=i) (j:=l.length-1) (by omega) (by omega);omega
   ·rfl
  refine⟨fun q row d=>?_,fun i hi=>?_⟩
  ·obtain⟨g,k⟩:=n q row d;refine⟨g,fun c=>(k c).trans ⟨?_,?_⟩⟩
   ·rintro⟨i,hi,b,a⟩;exact⟨i,hi,b,by rw[f i hi];exact a⟩
   ·rintro⟨i,hi,b,a⟩;exact⟨i,hi,b,by rw[<- f i hi];exact a⟩
  ·rw[f i hi];have:=Zc7 (pB T C) l (i:=i) (j:=l.length-1) (by omega) (by omega);omega
def minL(row:List Nat):Nat:=row.foldl min (row.headD 0)
theorem Zva:∀(l:List Nat) (a:Nat),l.foldl min a<=a/\∀x∈l,l.foldl min a<=x
 | [],a=>⟨Nat.le_refl a,fun _ h=>by cases h⟩
 | y::l,a=>by
  obtain⟨d,c⟩:=Zva l (min a y);refine⟨by rw[List.foldl_cons];omega,fun x b=>?_⟩;rw[List.foldl_cons];rcases List.mem_cons.1 b with rfl|b
  ·omega
  ·exact c x b
theorem Zry:∀(l:List Nat) (a:Nat),l.foldl min a=a\/l.foldl min a∈l
 | [],a=>.inl rfl
 | y::l,a=>by
  rw[List.foldl_cons];rcases Zry l (min a y)with h|h
  ·rw[h];rcases Nat.le_total a y with b|b
   ·rw[Nat.min_eq_left b];exact .inl rfl
   ·rw[Nat.min_eq_right b];exact .inr (List.mem_cons_self ..)
  ·exact .inr (List.mem_cons_of_mem _ h)
theorem minL_mem{row:List Nat}(h:row≠[]):minL row∈row:=by
 unfold minL;cases row with
 | nil=>exact absurd rfl h
 | cons a l =>
  rcases Zry (a::l) a with b|b
  ·show List.foldl min a (a::l)∈a::l;rw[b];exact List.mem_cons_self ..
  ·exact b
theorem minL_le{row:List Nat}{x:Nat}(h:x∈row):minL row<=x:=(Zva row _).2 x h
open Classical in
noncomputable def hdV (T : List T3) (C : List (Int×Int)) (v : Int) : List Nat := (List.range (3*T.length)).filter fun c => @decide (vt T c = v /\ Head T C c) (Classical.propDecidable _)
theorem mem_hdV{c:Nat}:c∈hdV T C v↔c<3*T.length/\vt T c=v/\Head T C c:=by
 unfold hdV;rw[List.mem_filter,List.mem_range];exact and_congr_right fun _=>@decide_eq_true_iff _ (Classical.propDecidable _)
theorem hdV_lt:(hdV T C v).Pairwise (· < ·):=List.pairwise_lt_range.sublist List.filter_sublist
theorem exV_lt:(exV T C v).Pairwise (· < ·):=List.pairwise_lt_range.sublist List.filter_sublist
theorem lt_lists{l m:List Nat}(hl:l.Pairwise (· < ·))(hm:m.Pairwise (· < ·))(h:∀x,x∈l↔x∈m):l=m:=by
 have c:l.Nodup:=hl.imp fun h=>by omega
 have d:m.Nodup:=hm.imp fun h=>by omega
 exact List.Perm.eq_of_pairwise (le:=(· < ·)) (fun a b _ _ h1 h2=>by omega) hl hm ((List.perm_ext_iff_of_nodup c d).2 h)
theorem Zo7(hs:Surf N T)(hv:0<=v/\v<N):∃b,hdV T C v=b::exV T C v/\b<3*T.length/\vt T b=v/\∀e,e<b->vt T e≠v:=by
 obtain⟨b,l⟩:=hs.corner_some hv.1 hv.2;obtain⟨_,m,c,k⟩:=(zamq _ _ _ _).1 l;have c:vt T b=v:=by simpa using c
 have f:∀e,e<b->vt T e≠v:=fun e he h=>by
  have:=k e (by omega) he;rw[beq_eq_false_iff_ne]at this;exact this h
 refine⟨b,lt_lists hdV_lt (List.pairwise_cons.2 ⟨fun x hx=>?_,exV_lt⟩) fun x=>?_,by omega,c,f⟩
 ·obtain⟨_,a,_,d,j,g⟩:=mem_exV.1 hx;rcases Nat.lt_trichotomy b x with h|h|h
  ·exact h
  ·subst h;exact absurd (g.trans a) (f d j)
  ·exact absurd a (f x h)
 ·rw[mem_hdV,List.mem_cons,mem_exV];constructor
  ·rintro⟨i,a,g⟩;rcases Nat.lt_trichotomy x b with h|h|h
   ·exact absurd a (f x h)
   ·exact .inl h
   ·exact .inr ⟨i,a,g,b,h,by rw[c,a]⟩
  ·rintro(rfl|⟨i,a,g,_⟩)
   ·exact⟨by omega,c,fun d j h=>f d j (by rw[<- h.vt hs,c])⟩
   ·exact⟨i,a,g⟩
def Secs(T:List T3)(C:List (Int×Int))(H:List Nat)(S:List (List Nat)):Prop:=S.length=H.length/\∀(k:Nat) (row:List Nat) (h:Nat),S[k]? = some row->H[k]? = some h->∀c,c∈row↔c<3*T.length/\Sect T C h c
theorem Ring.secs(hs:Surf N T)(r:Ring T v l inner){S:List (List Nat)}(hp:S.Perm (Zpm T C l inner))(ho:S.Pairwise fun x y=>¬minL y<minL x):Secs T C (hdV T C v) S:=by
 obtain⟨z,V⟩:=r.rows (C:=C);have g:∀row∈Zpm T C l inner,row≠[]/\∀c∈row,∀d,d∈row↔d<3*T.length/\Sect T C c d:=fun row g=>by
  obtain⟨q,u⟩:=List.getElem?_of_mem g;obtain⟨w,p⟩:=z q row u;refine⟨w,fun c hc d=>?_⟩;obtain⟨i,hi,rfl,n⟩:=(p c).1 hc;have H:=(r.mem _).1 (List.getElem_mem hi);rw[p d];constructor
  ·rintro⟨j,o,rfl,K⟩;exact⟨((r.mem _).1 (List.getElem_mem o)).1,(r.sect hi o).2 (n.trans K.symm)⟩
  ·rintro⟨I,t⟩;have J:d∈l:=(r.mem d).2 ⟨I,by rw[t.vt hs];exact H.2⟩;obtain⟨j,o,rfl⟩:=List.getElem_of_mem J;exact⟨j,o,rfl,((r.sect hi o).1 t).symm.trans n⟩
 have f:∀row∈Zpm T C l inner,minL row∈hdV T C v/\minL row∈row:=fun row s=>by
  obtain⟨w,p⟩:=g row s;have n:=minL_mem w;have A:=((p _ n _).1 n).1;refine⟨mem_hdV.2 ⟨A,?_,fun d I t=>?_⟩,n⟩
  ·obtain⟨q,u⟩:=List.getElem?_of_mem s;obtain⟨i,hi,e,_⟩:=((z q row u).2 _).1 n;rw[<- e];exact((r.mem _).1 (List.getElem_mem hi)).2
  ·have:=minL_le ((p _ n d).2 ⟨by omega,t.symm⟩);omega
 have L:(Zpm T C l inner).Pairwise fun x y=>minL x≠minL y:=by
  refine List.pairwise_iff_getElem.2 fun i j hi o hij D=>?_
  obtain⟨_,G⟩:=f _ (List.getElem_mem hi);obtain⟨_,P⟩:=f _ (List.getElem_mem o);rw[D]at G;obtain⟨k,F,Q,e2⟩:=((z i _ (List.getElem?_eq_getElem hi)).2 _).1 G;obtain⟨m,n,R,e4⟩:=((z j _ (List.getElem?_eq_getElem o)).2 _).1 P;have:k=m:=(List.getElem_inj r.nodup).1 (Q.trans R.symm);subst this;omega
 have A:(S.map minL).Pairwise (· < ·):=by
  rw[List.pairwise_map];have W:S.Pairwise fun x y=>minL x≠minL y:=(hp.pairwise_iff (fun {x y} h=>fun e=>h e.symm)).2 L
  exact(List.Pairwise.and ho W).imp fun⟨a,b⟩=>by omega
 have D:S.map minL=hdV T C v:=lt_lists A hdV_lt fun x=>by
  rw[List.mem_map];constructor
  ·rintro⟨row,s,rfl⟩;exact(f row (hp.mem_iff.1 s)).1
  ·intro X;obtain⟨w,p,U⟩:=mem_hdV.1 X;have M:x∈l:=(r.mem x).2 ⟨w,p⟩;obtain⟨i,hi,rfl⟩:=List.getElem_of_mem M;have u:=V i hi;have B:=List.getElem_mem u;obtain⟨k1,Y⟩:=g _ B;have O:=((z _ _ (List.getElem?_eq_getElem u)).2 l[i]).2 ⟨i,hi,rfl,rfl⟩;refine⟨_,hp.mem_iff.2 B,?_⟩;obtain⟨Z,m2⟩:=f _ B;exact Zm1 (mem_hdV.1 Z).2.2 U ((Y _ m2 _).1 O).2
 refine⟨by rw[<- D,List.length_map],fun k row h F E c=>?_⟩;rw[<- D,List.getElem?_map,F]at E;have E:minL row=h:=by simpa using E
 subst E;have s:=hp.mem_iff.1 (List.mem_of_getElem? F);exact(g row s).2 _ (f row s).2 c
end
section
variable {N : Int} {T : List T3} {L : List (Int×Int)} {v : Int}
theorem Zca{α β:Type}{f:α->β}:∀ {l:List α},l.Nodup->(∀a∈l,∀b∈l,f a=f b->a=b)->(l.map f).Nodup
 | [],_,_=>List.nodup_nil
 | a::l,hn,hf=>by
  rw[List.map_cons,List.nodup_cons];obtain⟨d,e⟩:=List.nodup_cons.1 hn;refine⟨fun h=>?_,Zca e fun x hx y hy=>hf x (List.mem_cons_of_mem _ hx) y (List.mem_cons_of_mem _ hy)⟩;obtain⟨b,c,g⟩:=List.mem_map.1 h;exact d (hf a (List.mem_cons_self ..) b (List.mem_cons_of_mem _ c) g.symm ▸ c)
theorem same_len{α:Type}[DecidableEq α]{l m:List α}(hl:l.Nodup)(hm:m.Nodup)(h:∀x,x∈l↔x∈m):l.length=m.length:=((List.perm_ext_iff_of_nodup hl hm).2 h).length_eq
theorem cut_at(hs:Surf N T)(g:Good T L){e:Int×Int}(he:e∈L):e.1≠e.2:=by
 obtain⟨⟨c,d⟩,_⟩:=g.two e he;obtain⟨b,a⟩:=zarq d;have:=hs.loop3 b;rw[show vt T (nx c)=e.1 from congrArg Prod.fst a,show vt T (pv c)=e.2 from congrArg Prod.snd a]at this;exact this
theorem nm_ends{a b x y:Int}(h:nm (a,b)=nm (x,y)):x=a\/y=a:=by
 rcases nm_eq.1 h with⟨c,_⟩|⟨c,_⟩
 ·exact .inl c.symm
 ·exact .inr c.symm
theorem ends_ring(hs:Surf N T)(g:Good T L){l:List Nat}{inner:Bool}(r:Ring T v l inner):Zbr L v=l.countP (pB T (L.map nm)):=by
 unfold Zbr;rw[List.countP_eq_length_filter,List.countP_eq_length_filter];have q:((L.filter fun e=>e.1==v || e.2==v).map nm).Nodup:=g.once.sublist (List.filter_sublist.map nm);have s:((l.filter (pB T (L.map nm))).map fun c=>nm (vt T c,vt T (nx c))).Nodup:=by
  refine Zca (r.nodup.sublist List.filter_sublist) fun a i b j d=>?_
  have i:=(r.mem a).1 (List.mem_filter.1 i).1;have j:=(r.mem b).1 (List.mem_filter.1 j).1;rw[i.2,j.2]at d;have p:vt T (nx a)=vt T (nx b):=by rcases nm_eq.1 d with⟨_,h⟩|⟨f,k⟩<;>omega
  have:eg T (pv a)=eg T (pv b):=by unfold eg;rw[Zcf,Zcf,Zfy,Zfy,i.2,j.2,p]
  exact Zr4 (hs.once _ _ (Zaj i.1) (Zaj j.1) this)
 have:=same_len q s fun x=>by
  rw[List.mem_map,List.mem_map];constructor
  ·rintro⟨e,d,rfl⟩;obtain⟨f,k⟩:=List.mem_filter.1 d;obtain⟨c,t,u,m⟩:=g.corner f (v:=v) (by simpa using k);refine⟨c,List.mem_filter.2 ⟨(r.mem c).2 ⟨t,u⟩,decide_eq_true ?_⟩,m⟩;unfold ctB;rw[m];exact List.mem_map_of_mem f
  ·rintro⟨c,w,rfl⟩;obtain⟨f,k⟩:=List.mem_filter.1 w;obtain⟨e,d,n⟩:=List.mem_map.1 (of_decide_eq_true k);refine⟨e,List.mem_filter.2 ⟨d,?_⟩,n⟩;have o:=nm_ends (a:=vt T c) (b:=vt T (nx c)) (x:=e.1) (y:=e.2) n.symm;rw[((r.mem c).1 f).2]at o;simpa using o
 rw[List.length_map,List.length_map]at this;exact this
theorem countP_labL(p:Nat->Bool):∀l:List Nat,0<l.length->l.countP p=(if p (l.getD 0 0)=true then 1 else 0)+labL p l (l.length-1)
 | [],h=>by simp at h
 | a::l,_=>by
  unfold labL;rw[List.take_of_length_le (by simp),List.countP_cons];simp only[List.drop_succ_cons,List.drop_zero,List.getD_cons_zero];omega
theorem mrgL_len(o:Bool)(R:List (List Nat)):(mrgL o R).length=if o=true/\1<R.length then R.length-1 else R.length:=by
 unfold mrgL
 split
 ·rw[List.length_take,List.length_set];omega
 ·rfl
theorem hdV_len(hs:Surf N T)(g:Good T L)(hv:0<=v/\v<N):(hdV T (L.map nm) v).length=if Zae T N v=false then Zbr L v+1 else max 1 (Zbr L v):=by
 obtain⟨f,r⟩:=hs.ring_in hv;have q:(Zpm T (L.map nm) (Zad T N v) (Zae T N v)).mergeSort (fun x y=>decide (minL x<=minL y)) |>.Perm (Zpm T (L.map nm) (Zad T N v) (Zae T N v)):=List.mergeSort_perm _ _;have w:((Zpm T (L.map nm) (Zad T N v) (Zae T N v)).mergeSort (fun x y=>decide (minL x<=minL y))).Pairwise fun x y=>¬minL y<minL x:=by
  refine(List.pairwise_mergeSort (le:=fun x y=>decide (minL x<=minL y)) (fun a b c h1 o=>?_) (fun a b=>?_) _).imp fun h=>?_
  ·simp only[decide_eq_true_eq]at *;omega
  ·simp only[Bool.or_eq_true,decide_eq_true_eq];omega
  ·simp only[decide_eq_true_eq]at h;omega
 have n:=r.secs hs q w;rw[<- n.1,q.length_eq];obtain⟨_,o,_⟩:=Zpq (pB T (L.map nm)) (Zad T N v) f;unfold Zpm;rw[mrgL_len,o,ends_ring hs g r,countP_labL _ _ f];unfold Zjb;cases p:Zae T N v with
 | false =>
  have s:pB T (L.map nm) ((Zad T N v).getD 0 0)=false:=by
   rw[Zav f];refine decide_eq_false fun j=>?_
   obtain⟨e,u,t⟩:=List.mem_map.1 j;have z:=(r.mem _).1 (List.getElem_mem f);have i:=(r.head f).2 p;unfold bef at i;rw[Option.map_eq_none_iff]at i;unfold opp at i;rw[Zfy,Zcf]at i;obtain⟨⟨c,j⟩,d,m⟩:=g.two e u;rcases nm_eq.1 (show nm (e.1,e.2)=nm (vt T (Zad T N v)[0],vt T (nx (Zad T N v)[0]))from t)with⟨k,l⟩|⟨k,l⟩
   ·rw[k,l]at m;rw[i]at m;cases m
   ·rw[show e=(e.1,e.2)from rfl,k,l]at j;rw[i]at j;cases j
  rw[s];simp
 | true =>
  cases pB T (L.map nm) ((Zad T N v).getD 0 0)<;>simp<;>(try split)<;>omega
theorem cut_corners(hs:Surf N T)(g:Good T L):((List.range (3*T.length)).filter fun c=>decide (nm (eg T c)∈L.map nm)).length=2*L.length:=by
 let f:=fun e:Int×Int=>(facing T e).getD 0
 have p:∀e∈L,facing T e=some (f e)/\facing T (e.2,e.1)=some (f (e.2,e.1)):=fun e i=>by
  obtain⟨⟨c,j⟩,d,J⟩:=g.two e i;constructor
  ·show facing T e=some ((facing T e).getD 0);rw[j];rfl
  ·show facing T (e.2,e.1)=some ((facing T (e.2,e.1)).getD 0);rw[J];rfl
 have B:∀l:List (Int×Int),(l.flatMap fun e=>[f e,f (e.2,e.1)]).length=2*l.length:=fun l=>by
  induction l with
  | nil=>rfl
  | cons e l ih=>rw[List.flatMap_cons,List.length_append,ih];simp;omega
 rw[<- B L];refine same_len (List.nodup_range.sublist List.filter_sublist) ?_ fun c=>?_
 ·
  have H:=g.once;have F:=fun e i=>cut_at hs g (e:=e) i
  have I:∀l:List (Int×Int),(∀e∈l,e∈L)->(l.map nm).Nodup->(l.flatMap fun e=>[f e,f (e.2,e.1)]).Nodup:=fun l=>by
   induction l with
   | nil=>intro _ _;exact List.nodup_nil
   | cons e l ih =>
    intro C n;rw[List.map_cons,List.nodup_cons]at n;rw[List.flatMap_cons];have i:=C e (List.mem_cons_self ..);obtain⟨k,m⟩:=p e i;have w:=(zarq k).2;have E:=(zarq m).2;refine List.nodup_append.2 ⟨?_,ih (fun x hx=>C x (List.mem_cons_of_mem _ hx)) n.2,fun a ha b o hab=>?_⟩
    ·rw[List.nodup_cons];refine⟨fun A=>?_,by simp⟩;have A:f e=f (e.2,e.1):=by simpa using A
     rw[A,E]at w;exact F e i (congrArg Prod.snd w)
    ·subst hab;obtain⟨v,q,o⟩:=List.mem_flatMap.1 o;obtain⟨K,M⟩:=p v (C v (List.mem_cons_of_mem _ q));have O:=(zarq K).2;have P:=(zarq M).2;have G:nm (eg T a)=nm e:=by
      simp only[List.mem_cons,List.not_mem_nil,or_false]at ha;rcases ha with rfl|rfl
      ·rw[w]
      ·rw[E,Ze0]
     have D:nm (eg T a)=nm v:=by
      simp only[List.mem_cons,List.not_mem_nil,or_false]at o;rcases o with rfl|rfl
      ·rw[O]
      ·rw[P,Ze0]
     exact n.1 (G.symm.trans D ▸ List.mem_map_of_mem q)
  exact I L (fun _ h=>h) H
 ·rw[List.mem_filter,List.mem_range,decide_eq_true_eq,List.mem_map,List.mem_flatMap];constructor
  ·rintro⟨j,e,i,n⟩;refine⟨e,i,?_⟩;obtain⟨k,m⟩:=p e i;obtain⟨r,s⟩:=zarq k;obtain⟨t,u⟩:=zarq m;rcases nm_eq.1 (show nm (e.1,e.2)=nm ((eg T c).1,(eg T c).2)from n)with⟨y,z⟩|⟨y,z⟩
   ·have:c=f e:=hs.once _ _ j r (by rw[s];exact Prod.ext y.symm z.symm);rw[this];exact List.mem_cons_self ..
   ·have:c=f (e.2,e.1):=hs.once _ _ j t (by rw[u];exact Prod.ext z.symm y.symm);rw[this];exact List.mem_cons_of_mem _ (List.mem_cons_self ..)
  ·rintro⟨e,i,j⟩;obtain⟨k,m⟩:=p e i;obtain⟨r,s⟩:=zarq k;obtain⟨t,u⟩:=zarq m;simp only[List.mem_cons,List.not_mem_nil,or_false]at j;rcases j with rfl|rfl
   ·exact⟨r,e,i,by rw[s]⟩
   ·exact⟨t,e,i,by rw[u,Ze0]⟩
end
variable {N : Int} {T : List T3} {C : List (Int×Int)}
open Classical in
noncomputable def numE (N : Int) (T : List T3) (C : List (Int×Int)) (H : List Nat) (c : Nat) : Int :=
 match H.findIdx? fun e=>decide (Sect T C e c)with
 | some i=>N+((i:Nat):Int)
 | none=>vt T c
theorem newN_eq:newN N T C=numE N T C (exH T C N.toNat):=rfl
theorem numE_nil:numE N T C []=vt T:=rfl
open Classical in
theorem numE_snoc{H:List Nat}{h:Nat}(hH:∀e∈H,Head T C e)(hh:Head T C h)(hn:h ∉ H)(c:Nat) :
  (Sect T C h c->numE N T C (H++[h]) c=N+(H.length:Nat))/\(¬Sect T C h c->numE N T C (H++[h]) c=numE N T C H c):=by
 unfold numE;rw[List.findIdx?_append];constructor
 ·intro hs;have h0:H.findIdx? (fun e=>decide (Sect T C e c))=none:=by
   rw[List.findIdx?_eq_none_iff];intro e he;refine decide_eq_false fun h9=>hn ?_
   rw[<- Zm1 (hH e he) hh (h9.trans hs.symm)];exact he
  rw[h0];simp[List.findIdx?_cons,hs]
 ·intro hs;have h1:[h].findIdx? (fun e=>decide (Sect T C e c))=none:=by simp[List.findIdx?_cons,hs]
  rw[h1];cases H.findIdx? (fun e=>decide (Sect T C e c))<;>rfl
theorem relab_congr{f g:Nat->Int}{n:Nat}(h:∀c,c<3*n->f c=g c):relab f n=relab g n:=by
 unfold relab;refine List.map_congr_left fun i hi=>?_
 have hi:=List.mem_range.1 hi;rw[h _ (by omega),h _ (by omega),h _ (by omega)]
theorem relab_row{H:List Nat}{h n:Nat}{row:List Nat}(hH:∀e∈H,Head T C e)(hh:Head T C h)(hn:h ∉ H)(hrow:∀c,c∈row↔c<3*n/\Sect T C h c) :
  relab (fun c=>if c∈row then N+(H.length:Nat)else numE N T C H c) n=relab (numE N T C (H++[h])) n:=by
 refine relab_congr fun c hc=>?_
 obtain⟨b,d⟩:=numE_snoc (N:=N) hH hh hn c;by_cases a:Sect T C h c
 ·rw[if_pos ((hrow c).2 ⟨hc,a⟩),b a]
 ·rw[if_neg (fun h9=>a ((hrow c).1 h9).2),d a]
theorem relab_vt:relab (vt T) T.length=T:=by
 refine List.ext_getElem (Zbn _ _) fun i h1 h2=>?_
 have c:(relab (vt T) T.length)[i]'h1=(vt T (3*i),vt T (3*i+1),vt T (3*i+2)):=by simp[relab]
 rw[c];have a:∀k,k<3->vt T (3*i+k)=vx T[i] k:=fun k hk=>by
  unfold vt;have e:T.getD ((3*i+k)/3) (0,0,0)=T[i]:=by
   rw[show(3*i+k)/3=i by omega,List.getD_eq_getElem?_getD,List.getElem?_eq_getElem h2];rfl
  rw[e,show(3*i+k)%3=k by omega]
 have b:=a 0 (by omega);rw[Nat.add_zero]at b;rw[b,a 1 (by omega),a 2 (by omega)];rfl
theorem Zgn(v:Nat):exH T C (v+1)=exH T C v++exV T C (v:Int):=by
 unfold exH;rw[List.range_succ,List.flatMap_append];simp
noncomputable def parH (T : List T3) (C : List (Int×Int)) (v j : Nat) : List Nat := exH T C v ++ (exV T C (v : Int)).take (j-1)
theorem parH_zero(v:Nat):parH T C v 0=exH T C v:=by unfold parH;simp
theorem parH_one(v:Nat):parH T C v 1=exH T C v:=by unfold parH;simp
theorem parH_end(hs:Surf N T){v:Nat}(hv:(v:Int)<N){j:Nat}(hj:(hdV T C (v:Int)).length<=j):parH T C v j=exH T C (v+1):=by
 obtain⟨b,a,_⟩:=Zo7 (C:=C) hs (v:=(v:Int)) ⟨by omega,hv⟩;rw[a,List.length_cons]at hj;unfold parH;rw[Zgn,List.take_of_length_le (by omega)]
theorem parH_step(hs:Surf N T){v:Nat}(hv:(v:Int)<N){j h:Nat}(hj:0<j)(hh:(hdV T C (v:Int))[j]? = some h) :
  parH T C v (j+1)=parH T C v j++[h]/\(∀e∈parH T C v j,Head T C e)/\Head T C h/\h ∉ parH T C v j/\vt T h=(v:Int):=by
 obtain⟨b,l,_⟩:=Zo7 (C:=C) hs (v:=(v:Int)) ⟨by omega,hv⟩;obtain⟨i,rfl⟩:∃i,j=i+1:=⟨j-1,by omega⟩;rw[l,List.getElem?_cons_succ]at hh;obtain⟨d,m⟩:=List.getElem?_eq_some_iff.1 hh;have f:=mem_exV.1 (List.mem_of_getElem? hh);have c:parH T C v (i+1+1)=parH T C v (i+1)++[h]:=by
  unfold parH;rw[List.append_assoc]
  congr 1
  rw[show i+1+1-1=i+1 by omega,show i+1-1=i by omega,<- m];exact(List.take_append_getElem d).symm
 refine⟨c,fun e h9=>?_,f.2.2.1,?_,f.2.1⟩
 ·unfold parH at h9;rcases List.mem_append.1 h9 with a|a
  ·obtain⟨_,_,_,_,k,_⟩:=mem_exH.1 a;exact k
  ·exact(mem_exV.1 (List.mem_of_mem_take a)).2.2.1
 ·have g:(parH T C v (i+1)++[h]).Nodup:=by
   rw[<- c];refine(Zub (T:=T) (C:=C) (v+1)).sublist ?_;rw[Zgn];unfold parH;exact List.Sublist.append_left (List.take_sublist _ _) _
  exact fun h9=>(List.nodup_append.1 g).2.2 h h9 h (List.mem_singleton.2 rfl) rfl
theorem Zqo(k:Nat):(exH T C k).length<=3*T.length:=by
 have h:=Zbt (Zub (T:=T) (C:=C) k) (m:=List.range (3*T.length)) fun c hc=>by
  obtain⟨_,_,a,_⟩:=mem_exH.1 hc;exact List.mem_range.2 a
 rwa [List.length_range]at h
theorem parH_few(v j:Nat):(parH T C v j).length<=3*T.length:=by
 have h:=Zqo (T:=T) (C:=C) (v+1);rw[Zgn,List.length_append]at h;unfold parH;rw[List.length_append,List.length_take];omega
theorem exH_skip(hs:Surf N T){L:List (Int×Int)}(g:Good T L){v:Nat}(hv:(v:Int)<N)(h0:Zbr L (v:Int)=0):exH T (L.map nm) (v+1)=exH T (L.map nm) v:=by
 obtain⟨b,d,_⟩:=Zo7 (C:=L.map nm) hs (v:=(v:Int)) ⟨by omega,hv⟩;have a:=hdV_len hs g (v:=(v:Int)) ⟨by omega,hv⟩;rw[h0,d,List.length_cons]at a;have c:(exV T (L.map nm) (v:Int)).length=0:=by split at a<;>omega
 rw[Zgn,List.length_eq_zero_iff.1 c,List.append_nil]
def outO(T:List T3)(n:Nat)(H:List Nat):List Int:=(List.range n).map (fun v:Nat=>(v:Int))++H.map (vt T)
theorem outO_snoc(T:List T3)(n:Nat)(H:List Nat)(h:Nat):outO T n (H++[h])=outO T n H++[vt T h]:=by unfold outO;rw[List.map_append,<- List.append_assoc];rfl
theorem Ziz(T:List T3)(n:Nat)(H:List Nat):(outO T n H).length=n+H.length:=by unfold outO;simp
theorem Zq2:newO N T C=outO T N.toNat (exH T C N.toNat):=rfl
structure Undo (N : Int) (T : List T3) (M : Nat) (Y : List T3) (E : List (Int×Int)) (W : Int -> Int) : Prop where
 len:Y.length=T.length
 was:∀c,c<3*T.length->W (vt Y c)=vt T c
 old:∀v,0<=v->v<N->W v=v
 le:N<=M
 used:∀k:Nat,k<M->∃c,c<3*T.length/\vt Y c=k
 pairs:∀e∈E,W e.1=W e.2
 pos:∀e∈E,0<=e.1/\0<=e.2
 conn:∀c d,c<3*T.length->aft T c=some d->labE E (vt Y c)=labE E (vt Y d)
section
variable {N : Int} {T : List T3} {M : Nat} {Y : List T3} {E : List (Int×Int)} {W : Int -> Int}
theorem Undo.keep(u:Undo N T M Y E W){v:Int}(h0:0<=v)(h1:v<N):labE E v=v:=by
 have a:=Zer W u.pairs v;have c:=(Zes E).le v;have b:=Zdx u.pos v h0;rw[u.old v h0 h1,u.old _ b (by omega)]at a;exact a
end
def Zdk(T X:List T3)(e:Int×Int):P4:=(eg X ((facing T e).getD 0),eg X ((facing T (e.2,e.1)).getD 0))
section
variable {N : Int} {T : List T3} {C : List (Int×Int)} {X : List T3} {O : List Int} {Es : List (Int×Int)}
structure Told (T : List T3) (C : List (Int×Int)) (Es : List (Int×Int)) : Prop where
 two:∀e∈Es,(∃c,facing T e=some c)/\∃d,facing T (e.2,e.1)=some d
 once:(Es.map nm).Nodup
 all:∀x,x∈C↔x∈Es.map nm
theorem mem_edP{l:List P4}{e:Int×Int}:e∈edP l↔∃p∈l,e=(p.1.1,p.2.2)\/e=(p.1.2,p.2.1):=by
 unfold edP;rw[List.mem_flatMap];simp
theorem pair_at(hs:Surf N T){e:Int×Int}{c d:Nat}(hc:facing T e=some c)(hd:facing T (e.2,e.1)=some d):Zdk T X e=(eg X c,eg X d)/\opp T c=some d/\c<3*T.length/\eg T c=e:=by
 obtain⟨h,f⟩:=zarq hc;obtain⟨i,g⟩:=zarq hd;refine⟨by unfold Zdk;rw[hc,hd];rfl,hs.opp_iff.2 ⟨i,?_,?_⟩,h,f⟩
 ·have a:=congrArg Prod.fst g;have b:=congrArg Prod.snd f;exact(show vt T (nx d)=e.2 from a).trans (show vt T (pv c)=e.2 from b).symm
 ·have a:=congrArg Prod.snd g;have b:=congrArg Prod.fst f;exact(show vt T (pv d)=e.1 from a).trans (show vt T (nx c)=e.1 from b).symm
theorem undo(n:Numb N T C X O)(hs:Surf N T)(t:Told T C Es):Undo N T O.length X (edP (Es.map (Zdk T X))) fun k=>O.getD k.toNat 0 where
 len:=n.len
 was:=fun c i=>by
  obtain⟨k,b,j⟩:=n.was c i;show O.getD (vt X c).toNat 0=_;rw[b,Int.toNat_natCast,List.getD_eq_getElem?_getD,j];rfl
 old:=fun v P b=>by
  have:=n.old v.toNat (by omega);show O.getD v.toNat 0=v;rw[List.getD_eq_getElem?_getD,this];show((v.toNat:Nat):Int)=v;omega
 le:=by
  have P:=hs.n0;rcases Int.lt_or_le 0 N with h|h
  ·have:=(List.getElem?_eq_some_iff.1 (n.old (N.toNat-1) (by omega))).1;omega
  ·omega
 used:=n.used
 pairs:=fun e o=>by
  obtain⟨p,B,h⟩:=mem_edP.1 o;obtain⟨x,D,rfl⟩:=List.mem_map.1 B;obtain⟨⟨c,i⟩,d,m⟩:=t.two x D;obtain⟨b,j,l,_⟩:=pair_at (X:=X) hs i m;rw[b]at h;obtain⟨r,G,H⟩:=hs.opp_iff.1 j;have a:∀f,f<3*T.length->O.getD (vt X f).toNat 0=vt T f:=fun f s=>by
   obtain⟨k,b,j⟩:=n.was f s;rw[b,Int.toNat_natCast,List.getD_eq_getElem?_getD,j];rfl
  rcases h with rfl|rfl
  ·show O.getD (vt X (nx c)).toNat 0=O.getD (vt X (pv d)).toNat 0;rw[a _ (Zam l),a _ (Zaj r),H]
  ·show O.getD (vt X (pv c)).toNat 0=O.getD (vt X (nx d)).toNat 0;rw[a _ (Zaj l),a _ (Zam r),G]
 pos:=fun e o=>by
  obtain⟨p,B,h⟩:=mem_edP.1 o;obtain⟨x,D,rfl⟩:=List.mem_map.1 B;obtain⟨⟨c,i⟩,d,m⟩:=t.two x D;obtain⟨b,j,l,_⟩:=pair_at (X:=X) hs i m;rw[b]at h;have A:=(hs.opp_iff.1 j).1;have a:∀f,f<3*T.length->0<=vt X f:=fun f s=>(n.rngX f (by rw[n.len];exact s)).1
  rcases h with rfl|rfl
  ·exact⟨a _ (Zam l),a _ (Zaj A)⟩
  ·exact⟨a _ (Zaj l),a _ (Zam A)⟩
 conn:=fun c d i ha=>by
  by_cases hcut:ctB T C d
  ·have m:=(hs.aft_iff.1 ha).1;have M:=hs.aft_iff.1 ha;obtain⟨e,o,R⟩:=List.mem_map.1 ((t.all _).1 hcut);obtain⟨⟨f,s⟩,g,L⟩:=t.two e o;obtain⟨b,j,l,Q⟩:=pair_at (X:=X) hs s L;obtain⟨r,G,H⟩:=hs.opp_iff.1 j;have u:∀q,q=(vt X (nx f),vt X (pv g))\/q=(vt X (pv f),vt X (nx g))->labE (edP (Es.map (Zdk T X))) q.1=labE (edP (Es.map (Zdk T X))) q.2:=fun q hq=>Zhj q (mem_edP.2 ⟨_,List.mem_map_of_mem o,by rw[b];exact hq⟩)
   have K:eg T f=e:=Q;have z:eg T g=(e.2,e.1):=(zarq L).2;have I:eg T (pv d)=(vt T d,vt T (nx d)):=by unfold eg;rw[Zcf,Zfy]
   have J:eg T (nx c)=(vt T (nx d),vt T d):=by unfold eg;rw[Zf2,Ze2,<- M.2.2,<- M.2.1]
   rcases nm_eq.1 (show nm (e.1,e.2)=nm (vt T d,vt T (nx d))from R)with⟨w,y⟩|⟨w,y⟩
   ·have E:f=pv d:=hs.once _ _ l (Zaj m) (by rw[K,I];exact Prod.ext w y);have F:g=nx c:=hs.once _ _ r (Zam i) (by rw[z,J];exact Prod.ext y w);have:=u _ (.inl rfl);rw[E,F,Zcf,Ze2]at this;exact this.symm
   ·have E:f=nx c:=hs.once _ _ l (Zam i) (by rw[K,J];exact Prod.ext w y);have F:g=pv d:=hs.once _ _ r (Zaj m) (by rw[z,I];exact Prod.ext y w);have:=u _ (.inr rfl);rw[E,F,Ze2,Zcf]at this;exact this
  ·rw[(n.same c d i (hs.aft_iff.1 ha).1).2 (Sect.step i ha hcut)]
end
section
variable {N : Int} {T : List T3} {C : List (Int×Int)} {X : List T3} {O : List Int} {Es : List (Int×Int)}
def Zcd(T:List T3)(e:Int×Int):Nat:=(facing T e).getD 0
def Za1(T X:List T3)(Es:List (Int×Int))(k:Nat):Int->Int:=labE (edP ((Es.take k).map (Zdk T X)))
theorem edP_take{l:List P4}{k:Nat}{e:Int×Int}(h:e∈edP (l.take k)):e∈edP l:=by
 obtain⟨p,a,h⟩:=mem_edP.1 h;exact mem_edP.2 ⟨p,List.mem_of_mem_take a,h⟩
theorem Zz7(k:Nat):∀e∈edP ((Es.take k).map (Zdk T X)),e∈edP (Es.map (Zdk T X)):=fun e he=>by
 rw[List.map_take]at he;exact edP_take he
theorem Zha(L:Int->Int)(Y:List T3){c:Nat}(hc:c<3*Y.length):vt (sewT L Y) c=numL L (vt Y c):=by
 unfold vt sewT;rw[List.getD_eq_getElem?_getD,List.getD_eq_getElem?_getD,List.getElem?_map,List.getElem?_eq_getElem (by omega)];show vx (numL L (Y[c/3]).1,numL L (Y[c/3]).2.1,numL L (Y[c/3]).2.2) (c%3)=numL L (vx (Y[c/3]) (c%3));have:c%3=0\/c%3=1\/c%3=2:=by omega
 rcases this with h|h|h<;>rw[h]<;>rfl
structure Half (N : Int) (T : List T3) (C : List (Int×Int)) (X : List T3) (O : List Int) (Es : List (Int×Int)) (k : Nat) : Prop where
 surf:Surf N T
 numb:Numb N T C X O
 told:Told T C Es
 sewn:Surf (rnk (Za1 T X Es k) O.length:Nat) (sewT (Za1 T X Es k) X)
variable {k : Nat}
theorem Half.was(h:Half N T C X O Es k){c d:Nat}(hc:c<3*T.length)(hd:d<3*T.length)(he:Za1 T X Es k (vt X c)=Za1 T X Es k (vt X d)):vt T c=vt T d:=by
 have u:=undo h.numb h.surf h.told;have f:∀e∈edP ((Es.take k).map (Zdk T X)),O.getD e.1.toNat 0=O.getD e.2.toNat 0:=fun e he=>u.pairs e (Zz7 k e he)
 have a:=Zer (E:=edP ((Es.take k).map (Zdk T X))) (fun x=>O.getD x.toNat 0) f (vt X c);have b:=Zer (E:=edP ((Es.take k).map (Zdk T X))) (fun x=>O.getD x.toNat 0) f (vt X d);have g:O.getD (vt X c).toNat 0=vt T c:=u.was c hc;have i:O.getD (vt X d).toNat 0=vt T d:=u.was d hd;rw[g]at a;rw[i]at b;rw[<- a,<- b];show O.getD (Za1 T X Es k (vt X c)).toNat 0=O.getD (Za1 T X Es k (vt X d)).toNat 0;rw[he]
theorem Half.pos(h:Half N T C X O Es k):∀x,0<=x->0<=Za1 T X Es k x:=by
 have u:=undo h.numb h.surf h.told;exact Zdx fun e he=>u.pos e (Zz7 k e he)
end
section
variable {N : Int} {T : List T3} {C D : List (Int×Int)}
theorem ctB_same(h:∀x,x∈C↔x∈D):ctB T C=ctB T D:=funext fun _=>propext (h _)
theorem shut_same(h:∀x,x∈C↔x∈D):Shut T C=Shut T D:=by unfold Shut;rw[ctB_same h]
theorem sect_same(h:∀x,x∈C↔x∈D):Sect T C=Sect T D:=by unfold Sect;rw[shut_same h]
theorem head_same(h:∀x,x∈C↔x∈D):Head T C=Head T D:=by unfold Head;rw[sect_same h]
theorem extra_same(h:∀x,x∈C↔x∈D):Zqd T C=Zqd T D:=by unfold Zqd;rw[head_same h]
theorem exV_same(h:∀x,x∈C↔x∈D):exV T C=exV T D:=by unfold exV;rw[extra_same h]
theorem exH_same(h:∀x,x∈C↔x∈D):exH T C=exH T D:=by unfold exH;rw[exV_same h]
theorem newO_same(h:∀x,x∈C↔x∈D):newO N T C=newO N T D:=by unfold newO;rw[exH_same h]
end
theorem Zt2{α:Type}{p q:α->Bool}{L:List α}(h:∀x∈L,p x=q x):L.countP p=L.countP q:=by
 rw[List.countP_eq_length_filter,List.countP_eq_length_filter,List.filter_congr h]
theorem range_nx(n:Nat):((List.range (3*n)).map nx).Perm (List.range (3*n)):=by
 refine(List.perm_ext_iff_of_nodup (Zca List.nodup_range fun a _ b _ h=>Zvi h) List.nodup_range).2 fun x=>?_
 rw[List.mem_map,List.mem_range];constructor
 ·rintro⟨a,c,rfl⟩;exact Zam (List.mem_range.1 c)
 ·intro h;exact⟨pv x,List.mem_range.2 (Zaj h),Zcf x⟩
theorem countP_nx(p:Nat->Bool)(n:Nat):(List.range (3*n)).countP (fun c=>p (nx c))=(List.range (3*n)).countP p:=by
 rw[<- (range_nx n).countP_eq p,List.countP_map];rfl
section
variable {N : Int} {T : List T3}
def lowV(T:List T3)(k:Int):Nat:=(List.range (3*T.length)).countP (fun c=>decide (vt T c<k))+(List.range (3*T.length)).countP fun c=>decide (vt T c<k/\aft T c=none)
def bordC(T:List T3):Nat:=(List.range (3*T.length)).countP fun c=>decide (opp T c=none)
theorem lowV_all(hs:Surf N T):lowV T N=3*T.length+bordC T:=by
 unfold lowV;have a:(List.range (3*T.length)).countP (fun c=>decide (vt T c<N))=3*T.length:=by
  rw[List.countP_eq_length.2 (fun c hc=>by rw[decide_eq_true_eq];exact(hs.rng c (List.mem_range.1 hc)).2),List.length_range]
 have b:(List.range (3*T.length)).countP (fun c=>decide (vt T c<N/\aft T c=none))=bordC T:=by
  unfold bordC;rw[<- countP_nx (fun c=>decide (opp T c=none))];refine Zt2 fun c hc=>?_
  have d:=(hs.rng c (List.mem_range.1 hc)).2;refine decide_eq_decide.2 ⟨fun h=>?_,fun h=>⟨d,?_⟩⟩
  ·have:=h.2;unfold aft at this
   rwa [Option.map_eq_none_iff]at this
  ·unfold aft;rw[h];rfl
 rw[a,b]
theorem Zrn{α:Type}{p q r:α->Bool}:∀ {L:List α},(∀e∈L,r e=(p e || q e))->(∀e∈L,¬(p e=true/\q e=true))->L.countP r=L.countP p+L.countP q
 | [],_,_=>rfl
 | e::L,hp,hd=>by
  have b:=Zrn (p:=p) (q:=q) (r:=r) (L:=L) (fun x hx=>hp x (List.mem_cons_of_mem _ hx)) (fun x hx=>hd x (List.mem_cons_of_mem _ hx));have a:=hp e (List.mem_cons_self ..);have f:=hd e (List.mem_cons_self ..);rw[List.countP_cons,List.countP_cons,List.countP_cons,b,a];cases c:p e<;>cases d:q e<;>simp_all<;>omega
theorem good_two{L:List (Int×Int)}(g:Good T L){c:Nat}(h:nm (eg T c)∈L.map nm):∃d,opp T c=some d:=by
 obtain⟨e,m,j⟩:=List.mem_map.1 h;obtain⟨⟨a,k⟩,b,l⟩:=g.two e m;rcases nm_eq.1 (show nm (e.1,e.2)=nm (vt T (nx c),vt T (pv c))from j)with⟨f,i⟩|⟨f,i⟩
 ·exact⟨b,by unfold opp;rw[<- f,<- i];exact l⟩
 ·exact⟨a,by unfold opp;rw[<- f,<- i];exact k⟩
theorem Zto{X:List T3}{O:List Int}{L:List (Int×Int)}(n:Numb N T (L.map nm) X O)(hs:Surf N T)(hp:Ztf T (L.map nm))(g:Good T L):bordC X=bordC T+2*L.length:=by
 rw[<- cut_corners hs g];unfold bordC;rw[n.len,<- List.countP_eq_length_filter];refine Zrn (fun c hc=>?_) fun c _ h=>?_
 ·have b:=n.bord hs hp (List.mem_range.1 hc);rw[<- Bool.decide_or];exact decide_eq_decide.2 b
 ·obtain⟨d,a⟩:=good_two g (of_decide_eq_true h.2);rw[of_decide_eq_true h.1]at a;cases a
theorem lowV_cut{X:List T3}{O:List Int}{L:List (Int×Int)}(n:Numb N T (L.map nm) X O)(hs:Surf N T)(hp:Ztf T (L.map nm))(g:Good T L)(hX:Surf (O.length:Nat) X):lowV X (O.length:Nat)=lowV T N+2*L.length:=by
 rw[lowV_all hs,lowV_all hX,n.len,Zto n hs hp g];omega
