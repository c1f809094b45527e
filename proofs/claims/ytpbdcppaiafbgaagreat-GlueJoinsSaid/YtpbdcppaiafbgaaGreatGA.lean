/- Za6: vertices that become one (sew): least labels, by. -/
import Derived.Test.YtpbdcppaiafbgaaGreatMesh
namespace Go.Mesh
def mrg(L:Int->Int)(v w:Int):Int->Int:=fun u=>if L u=max (L v) (L w)then min (L v) (L w)else L u
abbrev P4:=(Int×Int)×(Int×Int)
def edP(l:List P4):List (Int×Int):=l.flatMap fun p=>[(p.1.1,p.2.2),(p.1.2,p.2.1)]
def labE(E:List (Int×Int)):Int->Int:=E.foldl (fun L e=>mrg L e.1 e.2) id
theorem Zh9(E:List (Int×Int))(e:Int×Int):labE (E++[e])=mrg (labE E) e.1 e.2:=by unfold labE;rw[List.foldl_append];rfl
theorem gind{α:Type}{motive:List α->Prop}(h0:motive [])(h1:∀l a,motive l->motive (l++[a])):∀l,motive l:=fun l=>by
 have b:∀m:List α,motive m.reverse:=fun m=>by
  induction m with
  | nil=>exact h0
  | cons a m ih=>rw[List.reverse_cons];exact h1 _ a ih
 have:=b l.reverse
 rwa [List.reverse_reverse]at this
structure Lab (L : Int -> Int) : Prop where
 le:∀v,L v<=v
 idem:∀v,L (L v)=L v
theorem Lab.mrg{L:Int->Int}(h:Lab L)(v w:Int):Lab (mrg L v w) where
 le:=fun u=>by
  have a:=h.le u;unfold Go.Mesh.mrg
  split<;>omega
 idem:=fun u=>by
  have f:=h.idem v;have g:=h.idem w;have e:=h.idem u;have b:∀x,L x=x->x=min (L v) (L w)\/x≠max (L v) (L w)->Go.Mesh.mrg L v w x=x:=fun x hx hc=>by
   unfold Go.Mesh.mrg
   split
   ·rename_i h2;rcases hc with c|c
    ·exact c.symm
    ·exact(c (hx ▸ h2)).elim
   ·exact hx
  have d:L (min (L v) (L w))=min (L v) (L w):=by
   rcases Int.le_total (L v) (L w)with a|a
   ·rw[Int.min_eq_left a];exact f
   ·rw[Int.min_eq_right a];exact g
  conv=>lhs;rw[show Go.Mesh.mrg L v w u=(if L u=max (L v) (L w)then min (L v) (L w)else L u)from rfl]
  conv=>rhs;rw[show Go.Mesh.mrg L v w u=(if L u=max (L v) (L w)then min (L v) (L w)else L u)from rfl]
  split
  ·exact b _ d (.inl rfl)
  ·rename_i h2;exact b _ e (.inr h2)
theorem lab_id:Lab id:=⟨fun v=>Int.le_refl v,fun _=>rfl⟩
theorem Zes(E:List (Int×Int)):Lab (labE E):=by
 refine gind (motive:=fun E=>Lab (labE E)) lab_id (fun E e ih=>?_) E;rw[Zh9];exact ih.mrg _ _
theorem Zdx{E:List (Int×Int)}(hE:∀e∈E,0<=e.1/\0<=e.2):∀v,0<=v->0<=labE E v:=by
 revert hE;refine gind (motive:=fun E=>(∀e∈E,0<=e.1/\0<=e.2)->∀v,0<=v->0<=labE E v) (fun _ v hv=>hv) (fun E e a hE v hv=>?_) E;rw[Zh9];have a:=a fun x hx=>hE x (List.mem_append_left _ hx)
 have b:=hE e (by simp);have c:=a _ b.1;have d:=a _ b.2;have f:=a _ hv;unfold mrg
 split<;>omega
theorem Zer{α:Type}{E:List (Int×Int)}(M:Int->α)(hM:∀e∈E,M e.1=M e.2):∀v,M (labE E v)=M v:=by
 revert hM;refine gind (motive:=fun E=>(∀e∈E,M e.1=M e.2)->∀v,M (labE E v)=M v) (fun _ v=>rfl) (fun E e c hM v=>?_) E;rw[Zh9];have c:=c fun x hx=>hM x (List.mem_append_left _ hx)
 have g:=hM e (by simp);have d:=c e.1;have f:=c e.2;have a:=c v;unfold mrg
 split
 ·rename_i hc;rw[hc]at a;rcases Int.le_total (labE E e.1) (labE E e.2)with b|b
  ·rw[Int.min_eq_left b,d,g,<- f];rw[Int.max_eq_right b]at a;exact a
  ·rw[Int.min_eq_right b,f,<- g,<- d];rw[Int.max_eq_left b]at a;exact a
 ·exact a
theorem mrg_eq{L:Int->Int}(v w:Int){a b:Int}(h:L a=L b):mrg L v w a=mrg L v w b:=by unfold mrg;rw[h]
theorem mrg_one{L:Int->Int}(v w:Int):mrg L v w v=mrg L v w w:=by
 unfold mrg;rcases Int.le_total (L v) (L w)with a|a
 ·rw[Int.min_eq_left a,Int.max_eq_right a,if_pos rfl]
  split<;>omega
 ·rw[Int.min_eq_right a,Int.max_eq_left a,if_pos rfl]
  split<;>omega
theorem Zhj{E:List (Int×Int)}:∀e∈E,labE E e.1=labE E e.2:=by
 refine gind (motive:=fun E=>∀e∈E,labE E e.1=labE E e.2) (fun e he=>by cases he) (fun E f ih e he=>?_) E;rw[Zh9];rcases List.mem_append.1 he with a|a
 ·exact mrg_eq _ _ (ih e a)
 ·rw[List.mem_singleton.1 a];exact mrg_one _ _
def Roots(R:List Int)(L:Int->Int)(n:Nat):Prop:=R.length=n/\∀v:Nat,v<n->∃r:Nat,R[v]? = some (r:Int)/\r<=v/\(r=v↔L (v:Int)=v)/\L (r:Int)=L (v:Int)
theorem roots_id(n:Nat):Roots ((List.range n).map fun v:Nat=>(v:Int)) id n:=by
 refine⟨by simp,fun v hv=>⟨v,by simp[hv],Nat.le_refl v,by simp,rfl⟩⟩
theorem Roots.join{R:List Int}{L:Int->Int}{n:Nat}(h:Roots R L n)(hL:Lab L){v w a b:Nat}(ha:L (v:Int)=a)(hb:L (w:Int)=b):Roots (R.set (max a b) ((min a b:Nat):Int)) (mrg L v w) n:=by
 obtain⟨y,z⟩:=h;have j:=hL.idem v;have k:=hL.idem w;rw[ha]at j;rw[hb]at k;have o:=hL.le v;have p:=hL.le w;rw[ha]at o;rw[hb]at p;have i:((max a b:Nat):Int)=max (a:Int) b:=by omega
 have m:((min a b:Nat):Int)=min (a:Int) b:=by omega
 have c:∀u,mrg L v w u=if L u=max (a:Int) b then min (a:Int) b else L u:=fun u=>by unfold mrg;rw[ha,hb]
 have f:L ((max a b:Nat):Int)=((max a b:Nat):Int):=by
  rcases Nat.le_total a b with d|d
  ·rw[Nat.max_eq_right d];exact k
  ·rw[Nat.max_eq_left d];exact j
 have g:L ((min a b:Nat):Int)=((min a b:Nat):Int):=by
  rcases Nat.le_total a b with d|d
  ·rw[Nat.min_eq_left d];exact j
  ·rw[Nat.min_eq_right d];exact k
 refine⟨by rw[List.length_set];exact y,fun u hu=>?_⟩;obtain⟨r,q,s,t,x⟩:=z u hu;by_cases l:u=max a b
 ·subst l;refine⟨min a b,by rw[List.getElem?_set_self (by omega)],by omega,?_,?_⟩
  ·rw[c,f,if_pos i];omega
  ·rw[c,c,f,if_pos i,g]
   split<;>omega
 ·refine⟨r,by rw[List.getElem?_set_ne (fun e=>l e.symm)];exact q,s,?_,?_⟩
  ·rw[c,t]
   split
   ·rename_i hc;constructor
    ·intro h;exfalso;rw[h]at hc;omega
    ·intro h;rw[<- m]at h;have:u=min a b:=by omega
     rw[this];exact g
   ·exact Iff.rfl
  ·rw[c,c,x]
def rnk(L:Int->Int)(k:Nat):Nat:=(List.range k).countP fun u:Nat=>decide (L (u:Int)=u)
theorem Zfz(L:Int->Int)(k:Nat):rnk L (k+1)=rnk L k+if L (k:Int)=k then 1 else 0:=by
 unfold rnk;rw[List.range_succ,List.countP_append,List.countP_cons,List.countP_nil];simp
theorem Zv1(L:Int->Int):∀k,rnk L k<=k
 | 0=>Nat.le_refl 0
 | k+1=>by
  have:=Zv1 L k;rw[Zfz]
  split<;>omega
theorem rnk_mono(L:Int->Int){j k:Nat}(h:j<=k):rnk L j<=rnk L k:=by
 induction k with
 | zero=>rw[Nat.le_zero.1 h];exact Nat.le_refl _
 | succ k ih =>
  rcases Nat.lt_or_ge k j with a|a
  ·rw[show j=k+1 by omega];exact Nat.le_refl _
  ·have:=ih a;rw[Zfz];omega
theorem rnk_lt(L:Int->Int){j k:Nat}(h:j<k)(hj:L (j:Int)=j):rnk L j<rnk L k:=by
 have a:=Zfz L j;rw[if_pos hj]at a;have:=rnk_mono L (j:=j+1) (k:=k) (by omega);omega
def numL(L:Int->Int)(v:Int):Int:=(rnk L (L v).toNat:Nat)
def Zb4(L:Int->Int)(n:Nat):List Int:=(List.range n).map fun v:Nat=>numL L (v:Int)
def sewT(L:Int->Int)(T:List T3):List T3:=T.map fun t=>(numL L t.1,numL L t.2.1,numL L t.2.2)
theorem numL_eq{L:Int->Int}(hL:Lab L)(h0:∀v,0<=v->0<=L v){v w:Int}(hv:0<=v)(hw:0<=w):numL L v=numL L w↔L v=L w:=by
 constructor
 ·intro h;unfold numL at h;have b:=hL.idem v;have c:=hL.idem w;have d:=h0 v hv;have e:=h0 w hw;rcases Int.lt_trichotomy (L v) (L w)with a|a|a
  ·have:=rnk_lt L (j:=(L v).toNat) (k:=(L w).toNat) (by omega) (by rw[Int.toNat_of_nonneg d];exact b);omega
  ·exact a
  ·have:=rnk_lt L (j:=(L w).toNat) (k:=(L v).toNat) (by omega) (by rw[Int.toNat_of_nonneg e];exact c);omega
 ·intro h;unfold numL;rw[h]
theorem numL_lt{L:Int->Int}(hL:Lab L)(h0:∀v,0<=v->0<=L v){v:Int}{n:Nat}(hv:0<=v)(hn:v<n):0<=numL L v/\numL L v<(rnk L n:Nat):=by
 have a:=hL.idem v;have b:=h0 v hv;have c:=hL.le v;unfold numL;have:=rnk_lt L (j:=(L v).toNat) (k:=n) (by omega) (by rw[Int.toNat_of_nonneg b];exact a);omega
