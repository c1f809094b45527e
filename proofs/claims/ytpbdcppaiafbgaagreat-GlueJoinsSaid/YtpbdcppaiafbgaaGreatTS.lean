/- Walks: the document's With, Behind, At. Walks: the. -/
import Derived.Test.YtpbdcppaiafbgaaGreatTI
import Derived.Deep.CutBlock
import Derived.Deep.DeepCutAuto
set_option maxRecDepth 100000
set_option maxHeartbeats 8000000
namespace Go.Mesh
theorem dirc_none{T:List T3}{a b:Int}(h:∀c,c<3*T.length->¬(vt T c=a/\vt T (nx c)=b)):dirc T a b=none :=
 (Zcr _ _ _).2 fun c _ hc=>by
  have:=h c (by omega);simpa using this
theorem dirc_at{T:List T3}{a b:Int}{c:Nat}(hc:c<3*T.length)(h1:vt T c=a/\vt T (nx c)=b)(h:∀d,d<c->¬(vt T d=a/\vt T (nx d)=b)):dirc T a b=some c :=
 (zamq _ _ _ _).2 ⟨by omega,by omega,by simpa using h1,fun d _ hd=>by
  have:=h d hd;simpa using this⟩
theorem nx_three(i k:Nat)(hk:k<3):nx (3*i+k)=3*i+(k+1)%3:=by unfold nx;omega
end Go.Mesh
namespace Go.Proofs.YtpbdcppaiafbgaaGreat
open Go Go.RowKit Go.Words Go.Mesh
theorem Zbw{w:World}{B cap:Nat}{A:Option Addr}{T:List T3}(h:Sl 3 RTri w B (.slice A T.length cap) T){i:Nat}(hi:i<T.length) :
  ∃b o,A=some ⟨b,o,none⟩/\b<B/\∀k,k<3->w.cell? ⟨b,o+i*3+k,none⟩=some (.int .i64 (Mesh.vt T (3*i+k))):=by
 obtain⟨b,o,d,e,g⟩:=Zp7 h (n:=3*i) (by omega);refine⟨b,o,d,e,fun k hk=>?_⟩;obtain⟨f,j,a,_,c⟩:=Zp7 h (n:=3*i+k) (by omega);rw[d]at a;injection a with a;injection a with a g2;subst a;subst g2;rw[show(3*i+k)/3=i by omega,show(3*i+k)%3=k by omega]at c;exact c
theorem Zea{w:World}{B:Nat}{sv:Value}{N:Int}{T:List T3}(hT:Sl 3 RTri w B sv T)(hB0:B<=w.heap.size)(hfew:T.length<=8192)(x y:Int) :
  Calls Tryz.prog 73 #[.agg #[.int .i64 N,sv],.int .i64 x,.int .i64 y] w fun e w'=>e=.returned (.int .i64 (oi ((dirc T x y).map (· / 3))))/\Below w.heap.size w w':=by
 obtain⟨A,u,rfl,Y⟩:=hT.form;have f:=Bk.new w 24 [.int .i64 N,.slice A T.length u];have n:=(zr w.heap.size w).alloc zl (.cells #[.int .i64 N,.slice A T.length u] 24);have v:=hT.below zaaq (n.mono hB0);generalize S:w.alloc (.cells #[.int .i64 N,.slice A T.length u] 24)=I at *;have V:=f.cell 0;have W:=f.cell 1;simp only[List.getElem?_cons_zero,List.getElem?_cons_succ]at V W;obtain⟨Z,E,U⟩:=zz3 hT v f;clear hT v f;go_enter Tryz.func73,Tryz.ntmps73;go_wp2_with fail;clear S;go_loopw[7] (fun i wr=>∃k:Nat,k<=T.length/\i=.int .i64 k/\wr=I/\∀c,c<3*k->¬(Mesh.vt T c=x/\Mesh.vt T (nx c)=y)) (fun i _=>T.length-(intOf i).toNat)
 case atStart=>exact⟨0,by omega,rfl,rfl,fun c H=>by omega⟩
 case round =>
  obtain⟨k,hk,rfl,d,D⟩:=hrel;have d:=d.symm;subst d;have t:=zz D;clear D;by_cases O:k<T.length
  ·obtain⟨b,o,rfl,hb,r⟩:=Zbw E.out O;have a0:b<I.heap.size:=by have:=n.size;omega
   have g:=zz r;clear r;go_wp2_with fail;go_loopw[8] (fun j wr=>∃m:Nat,m<=3/\j=.int .i64 m/\wr=I/\∀c,c<3*k+m->¬(Mesh.vt T c=x/\Mesh.vt T (nx c)=y)) (fun j _=>3-(intOf j).toNat)
   case atStart=>exact⟨0,by omega,rfl,rfl,fun c H=>t.out c (by omega)⟩
   case round =>
    obtain⟨m,hm,rfl,d,a⟩:=hrel;have d:=d.symm;subst d;by_cases C:m<3
    ·have a1:=g.out m C;have K:=g.out ((m+1)%3) (by omega);rw[<- nx_three k m C]at K;have s:¬(Mesh.vt T (3*k+m)=x/\Mesh.vt T (nx (3*k+m))=y)->∀c,c<3*k+(m+1)->¬(Mesh.vt T c=x/\Mesh.vt T (nx c)=y):=by
      intro G c H;by_cases X:c=3*k+m
      ·rw[X];exact G
      ·exact a c (by omega)
     have z:Mesh.vt T (3*k+m)=x/\Mesh.vt T (nx (3*k+m))=y->oi ((dirc T x y).map (· / 3))=(k:Int):=by
      intro G;rw[dirc_at (by omega) G a];show(((3*k+m)/3:Nat):Int)=k;omega
     generalize Mesh.vt T (3*k+m)=p at *;generalize Mesh.vt T (nx (3*k+m))=q at *;obtain⟨l,h,F⟩:=zz3 a s z;clear a s z;by_cases Q:p=x
     ·by_cases R:q=y
      ·go_wp2_with fail;go_ret;exact⟨Zb3 (F.out ⟨Q,R⟩).symm,n⟩
      ·go_wp2_with fail;exact⟨⟨m+1,by omega,by simp,trivial,h.out fun h9=>R h9.2⟩,by simp[intOf];omega⟩
     ·go_wp2_with fail;exact⟨⟨m+1,by omega,by simp,trivial,h.out fun h9=>Q h9.1⟩,by simp[intOf];omega⟩
    ·have P:m=3:=by omega
     subst P;have l:=zz a;clear a;go_wp2_with fail;exact⟨⟨k+1,by omega,by simp,trivial,fun c H=>l.out c (by omega)⟩,by simp[intOf];omega⟩
  ·have M:k=T.length:=by omega
   subst M;have L:oi ((dirc T x y).map (· / 3)) = -1:=by rw[dirc_none t.out];rfl
   have J:=zz L;clear L;go_wp2_with fail;go_ret;exact⟨Zb3 J.out.symm,n⟩
end Go.Proofs.YtpbdcppaiafbgaaGreat
namespace Go.Mesh
theorem Zx5(p:Nat->Bool):∀n k,Zau p k (n+1)=match Zau p k n with
  | some c=>some c
  | none=>if p (k+n)then some (k+n)else none
 | 0,k=>by simp[Zau]
 | n+1,k=>by
  unfold Zau;by_cases h:p k=true
  ·rw[if_pos h,if_pos h]
  ·rw[if_neg h,if_neg h,Zx5 p n (k+1),show k+1+n=k+(n+1) by omega]
end Go.Mesh
namespace Go.Proofs.YtpbdcppaiafbgaaGreat
open Go Go.RowKit Go.Words Go.Mesh
theorem Zcc{w:World}{base:Nat}{v:Value}{l:List Nat}(h:w.ownsRow base 3 1 v l.length (nvals l)):Sl 1 RInt w w.heap.size v (l.map fun n:Nat=>(n:Int)):=by
 refine Sl.of_own (base:=base) (e:=3) (xs:=nvals l) (by rw[zL];exact h) fun i a hi=>?_
 rw[zJ]at hi;unfold RInt;obtain⟨x,c,rfl⟩:=Option.map_eq_some_iff.1 hi;have b:=(zS.1 c).1;unfold nvals;rw[Nat.mul_one,List.drop_eq_getElem_cons (by simpa using b)];simp only[List.take_succ_cons,List.take_zero,List.getElem_map];rw[zG b]at c;rw[zO c]
theorem Zct{w:World}{base g n cap:Nat}{l:List Nat}(h:w.ownsRow base 3 1 (.slice (some ⟨g,0,none⟩) n cap) n (nvals l))(hl:l.length=n){i:Nat}(hi:i<l.length) :
  w.cell? ⟨g,i,none⟩=some (.int .i64 (l[i]:Int))/\g<w.heap.size/\base<=g:=by
 have d:=h.lt g rfl;subst hl;have j:=Zcc h;have f:(l.map fun n:Nat=>(n:Int)).length=l.length:=zL _;obtain⟨b,o,k,a,m,p,c,e⟩:=Sl.at_ j (zG (l:=l.map fun n:Nat=>(n:Int)) (i:=i) (by omega));injection a with a;injection a with a h6;subst a;subst h6;unfold RInt at c;subst c;refine⟨?_,d.2,d.1⟩;have:=e 0 _ rfl;simpa using this
theorem Zq5{w:World}{base:Nat}{e:TypeId}(x:Value)(hb:base<=w.heap.size):(w.alloc (.cells #[x] e)).ownsRow base e 1 (.slice (some ⟨w.heap.size,0,none⟩) 1 1) 1 [x] :=
 ⟨rfl,.inr ⟨w.heap.size,1,#[x],rfl,hb,heap_alloc_new w _,zl,by unfold maxLen;omega,rfl,rfl⟩⟩
open Go Go.RowKit Go.Words Go.Mesh
end Go.Proofs.YtpbdcppaiafbgaaGreat
namespace Go.Mesh
def shareB(T:List T3)(c d:Nat):Bool:=vt T (nx c)==vt T (nx d)||vt T (nx c)==vt T (pv d)||vt T (pv c)==vt T (nx d)||vt T (pv c)==vt T (pv d)
theorem shareB_iff{T:List T3}{c d:Nat}:shareB T c d=true↔share T c d:=by
 unfold shareB share;simp only[Bool.or_eq_true,beq_iff_eq];constructor
 ·rintro(((h|h)|h)|h)
  ·exact .inl h
  ·exact .inr (.inl h)
  ·exact .inr (.inr (.inl h))
  ·exact .inr (.inr (.inr h))
 ·rintro(h|h|h|h)
  ·exact .inl (.inl (.inl h))
  ·exact .inl (.inl (.inr h))
  ·exact .inl (.inr h)
  ·exact .inr h
theorem share_symm{T:List T3}{c d:Nat}(h:share T c d):share T d c:=by
 rcases h with h|h|h|h
 ·exact .inl h.symm
 ·exact .inr (.inr (.inl h.symm))
 ·exact .inr (.inl h.symm)
 ·exact .inr (.inr (.inr h.symm))
def stepsB(T:List T3):List Nat->Bool
 | c::d::l=>shareB T c d&&stepsB T (d::l)
 | _=>true
theorem steps_all{T:List T3}(P:Nat->Prop)(Q:Nat->Prop)(hs:∀c d,Q c->Q d->P c->share T c d->P d):∀(l:List Nat),stepsB T l=true->(∀c∈l,Q c)->(∃c∈l,P c)->∀c∈l,P c
 | [],_,_,_,c,a=>by cases a
 | [x],_,_,⟨c,a,hP⟩,d,f=>by
  have m:c=x:=by simpa using a
  have n:d=x:=by simpa using f
  rw[n,<- m];exact hP
 | x::y::l,hst,hQ,⟨c,a,hP⟩,d,f=>by
  simp only[stepsB,Bool.and_eq_true]at hst;have i:=shareB_iff.1 hst.1;have g:=hQ x (by simp);have h:=hQ y (by simp);have j:∀c∈y::l,Q c:=fun c a=>hQ c (List.mem_cons_of_mem _ a)
  have k:∃e∈y::l,P e:=by
   rcases List.mem_cons.1 a with rfl|a
   ·exact⟨y,by simp,hs _ _ g h hP i⟩
   ·exact⟨c,a,hP⟩
  have b:=steps_all P Q hs (y::l) hst.2 j k;rcases List.mem_cons.1 f with rfl|f
  ·exact hs _ _ h g (b y (by simp)) (share_symm i)
  ·exact b d f
def orderAt(T:List T3)(v:Int):List Nat:=match Zcy T v with
 | some b=>runF (aft T) (begins T b).1 (3*T.length) (begins T b).1
 | none=>[]
def fanB(T:List T3)(v:Int):Bool :=
 let l:=orderAt T v
 l.all (fun c=>decide (c<3*T.length)&&vt T c==v)&&stepsB T l&&(List.range (3*T.length)).all fun c=>vt T c != v || l.contains c
theorem fan_check{T:List T3}{v:Int}(h:fanB T v=true):Fan T v:=by
 unfold fanB at h;simp only[Bool.and_eq_true,List.all_eq_true,decide_eq_true_eq,beq_iff_eq,Bool.or_eq_true,bne_iff_ne,List.contains_iff_mem,zR]at h;obtain⟨⟨k,l⟩,m⟩:=h;intro P ⟨f,i,j,g⟩ n c a e;have b:∀c,c<3*T.length->vt T c=v->c∈orderAt T v:=fun c a e=>by
  rcases m c a with h|h
  ·exact absurd e h
  ·exact h
 exact steps_all P (fun c=>c<3*T.length/\vt T c=v) (fun c d a hd=>n c d a.1 a.2 hd.1 hd.2) (orderAt T v) l k ⟨f,b f i j,g⟩ c (b c a e)
def surfB(N:Int)(T:List T3):Bool :=
 decide (0<=N)&&decide (N<=4096)&&decide (T.length<=8192) &&
 ((List.range (3*T.length)).all fun c=>decide (0<=vt T c)&&decide (vt T c<N)&&vt T c != vt T (nx c)) &&
 ((List.range (3*T.length)).all fun c=>(List.range (3*T.length)).all fun d=>eg T c != eg T d || c==d) &&
 ((List.range T.length).all fun i=>(List.range T.length).all fun j=>!decide (i<j) || !((List.range 3).all fun k=>(List.range 3).any fun m=>vt T (3*i+k)==vt T (3*j+m))) &&
 ((List.range N.toNat).all fun v=>((List.range (3*T.length)).any fun c=>vt T c==(v:Int))&&fanB T v)
theorem Zhw{N:Int}{T:List T3}(h:surfB N T=true):Surf N T:=by
 unfold surfB at h;simp only[Bool.and_eq_true,List.all_eq_true,List.any_eq_true,decide_eq_true_eq,beq_iff_eq,Bool.or_eq_true,bne_iff_ne,zR,Bool.not_eq_true']at h;obtain⟨⟨⟨⟨⟨⟨g,l⟩,n⟩,b⟩,o⟩,p⟩,f⟩:=h;refine⟨g,l,n,fun c a=>⟨(b c a).1.1,(b c a).1.2⟩,fun c a=>(b c a).2,fun c d a hd e=>?_,fun i j hij hj hall=>?_,fun v hv0 hv1=>?_,fun v hv0 hv1=>?_⟩
 ·rcases o c a d hd with h|h
  ·exact absurd e h
  ·exact h
 ·rcases p i (by omega) j hj with h|h
  ·rw[decide_eq_false_iff_not]at h;exact h hij
  ·have:((List.range 3).all fun k=>(List.range 3).any fun m=>vt T (3*i+k)==vt T (3*j+m))=true:=by
    simp only[List.all_eq_true,List.any_eq_true,zR,beq_iff_eq];exact hall
   rw[this]at h;cases h
 ·obtain⟨⟨c,a,e⟩,_⟩:=f v.toNat (by omega);exact⟨c,a,by rw[e];omega⟩
 ·have:=(f v.toNat (by omega)).2;rw[show((v.toNat:Nat):Int)=v by omega]at this;exact fan_check this
end Go.Mesh
namespace Go.Proofs.YtpbdcppaiafbgaaGreat
open Go Go.RowKit Go.Words Go.Mesh
def Zan:List T3->List Value
 | []=>[]
 | t::T=>.int .i64 t.1 :: .int .i64 t.2.1 :: .int .i64 t.2.2::Zan T
theorem Zno:∀(T:List T3) (i:Nat) (t:T3),T[i]? = some t->i*3+3<=(Zan T).length/\((Zan T).drop (i*3)).take 3=[.int .i64 t.1,.int .i64 t.2.1,.int .i64 t.2.2]
 | [],i,t,h=>by simp at h
 | x::T,0,t,h=>by
  have:x=t:=by simpa using h
  subst this;exact⟨by simp[Zan],by simp[Zan]⟩
 | x::T,i+1,t,h=>by
  obtain⟨b,a⟩:=Zno T i t (by simpa using h);refine⟨by simp only[Zan,List.length_cons];omega,?_⟩;rw[show(i+1)*3=i*3+1+1+1 by omega];simp only[Zan,List.drop_succ_cons];exact a
theorem Zjg{w:World}{g cap:Nat}{t:TypeId}{T:List T3}(h:Bk w g t (Zan T))(hc:T.length<=cap):Sl 3 RTri w w.heap.size (.slice (some ⟨g,0,none⟩) T.length cap) T :=
 Sl.of_block h hc fun i a hi=>Zno T i a hi
theorem Zk7{w:World}{g cap:Nat}{t:TypeId}{l:List Int}(h:Bk w g t (ivals l))(hc:l.length<=cap):Sl 1 RInt w w.heap.size (.slice (some ⟨g,0,none⟩) l.length cap) l :=
 Sl.of_block h hc fun i a hi=>by
  have b:=(zS.1 hi).1;refine⟨by unfold ivals;rw[zL];omega,?_⟩;unfold RInt ivals;rw[Nat.mul_one,List.drop_eq_getElem_cons (by simpa using b)];simp only[List.take_succ_cons,List.take_zero,List.getElem_map];rw[zG b]at hi;rw[zO hi]
