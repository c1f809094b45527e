/- Walks: which bodies may be (glue's may, ref33's May). -/
import Derived.Test.YtpbdcppaiafbgaaGreatIE
import Derived.Test.YtpbdcppaiafbgaaGreatBM
set_option maxRecDepth 100000
set_option maxHeartbeats 8000000
namespace Go.Proofs.YtpbdcppaiafbgaaGreat
open Go Go.RowKit Go.Words Go.Mesh
def ptB(p:T3):Bool:=decide (p.1<=1048576 /\ -1048576<=p.1/\p.2.1<=1048576 /\ -1048576<=p.2.1/\p.2.2<=1048576 /\ -1048576<=p.2.2)
def valB(x:Int):Bool:=decide (0<=x/\x<=65535)
def mayB(N:Int)(T P:List T3)(K:List Int):Bool:=decide ((P.length:Int)=N/\(K.length=0\/K.length=3*T.length))&&(P.all ptB&&K.all valB)
theorem Zx9{N:Int}{T P:List T3}{K:List Int}(h:¬((P.length:Int)=N/\(K.length=0\/K.length=3*T.length))):mayB N T P K=false:=by unfold mayB;rw[zN h];rfl
theorem mayB_pt{N:Int}{T P:List T3}{K:List Int}{i:Nat}(hi:i<P.length)(h:ptB P[i]=false):mayB N T P K=false:=by
 unfold mayB;have:P.all ptB=false:=List.all_eq_false.2 ⟨P[i],zM hi,by rw[h];decide⟩;rw[this,Bool.false_and,Bool.and_false]
theorem mayB_val{N:Int}{T P:List T3}{K:List Int}{i:Nat}(hi:i<K.length)(h:valB K[i]=false):mayB N T P K=false:=by
 unfold mayB;have:K.all valB=false:=List.all_eq_false.2 ⟨K[i],zM hi,by rw[h];decide⟩;rw[this,Bool.and_false,Bool.and_false]
theorem Zsn{α:Type}{p:α->Bool}{l:List α}{i:Nat}(hi:i<l.length)(h1:∀x∈l.take i,p x=true)(h2:p l[i]=true):∀x∈l.take (i+1),p x=true:=fun x a=>by
 rw[zT hi,zP,zU]at a;rcases a with a|rfl
 ·exact h1 x a
 ·exact h2
theorem mayB_ok{N:Int}{T P:List T3}{K:List Int}(h:(P.length:Int)=N/\(K.length=0\/K.length=3*T.length))(h1:∀x∈P.take P.length,ptB x=true)(h2:∀x∈K.take K.length,valB x=true):mayB N T P K=true:=by
 rw[List.take_length]at h1 h2;unfold mayB;rw[zY h,List.all_eq_true.2 h1,List.all_eq_true.2 h2];rfl
theorem ptB_at{p:T3}:ptB p=true↔∀j,j<3->vx p j<=1048576 /\ -1048576<=vx p j:=by
 unfold ptB;rw[decide_eq_true_iff];constructor
 ·rintro⟨a,b,c,d,e,f⟩ j g
  match j,g with
  | 0,_=>exact⟨a,b⟩
  | 1,_=>exact⟨c,d⟩
  | 2,_=>exact⟨e,f⟩
 ·intro h;exact⟨(h 0 (by omega)).1,(h 0 (by omega)).2,(h 1 (by omega)).1,(h 1 (by omega)).2,(h 2 (by omega)).1,(h 2 (by omega)).2⟩
theorem idx_pt0(x0 x1 x2:Int)(w:World):(Instr.index 74 (.agg #[.int .i64 x0,.int .i64 x1,.int .i64 x2]) (.int .i64 0)).run Tryz.prog w=.ok (.int .i64 x0) w:=by kernel_rfl
theorem idx_pt1(x0 x1 x2:Int)(w:World):(Instr.index 74 (.agg #[.int .i64 x0,.int .i64 x1,.int .i64 x2]) (.int .i64 1)).run Tryz.prog w=.ok (.int .i64 x1) w:=by kernel_rfl
theorem idx_pt2(x0 x1 x2:Int)(w:World):(Instr.index 74 (.agg #[.int .i64 x0,.int .i64 x1,.int .i64 x2]) (.int .i64 2)).run Tryz.prog w=.ok (.int .i64 x2) w:=by kernel_rfl
theorem may_calls{w:World}{B:Nat}{sv pv kv:Value}{N:Int}{T P:List T3}{K:List Int}(hB0:B<=w.heap.size)(hT:Sl 3 RTri w B sv T)(hP:Sl 3 RTri w B pv P)(hK:Sl 1 RInt w B kv K)(hTl:T.length<=100000)(hPl:P.length<=100000)(hKl:K.length<=1000000) :
  Calls Tryz.prog 86 #[.agg #[.int .i64 N,sv,pv,kv]] w fun e w'=>e=.returned (.bool (mayB N T P K))/\Below w.heap.size w w':=by
 obtain⟨A,a9,rfl,bh⟩:=hT.form;obtain⟨Ap,Z,rfl,bd⟩:=hP.form;obtain⟨Ak,Y,rfl,bc⟩:=hK.form;have a7:=(zr w.heap.size w).alloc zl (.cells #[.int .i64 N,.slice A T.length a9,.slice Ap P.length Z,.slice Ak K.length Y] 67);have D:=Bk.new w 67 [.int .i64 N,.slice A T.length a9,.slice Ap P.length Z,.slice Ak K.length Y];have bl:w.heap.size+1<=(w.alloc (.cells #[.int .i64 N,.slice A T.length a9,.slice Ap P.length Z,.slice Ak K.length Y] 67)).heap.size:=by simp
 have R:=hP.below zaaq (a7.mono hB0);have Q:=hK.below zadq (a7.mono hB0);generalize bk:w.alloc (.cells #[.int .i64 N,.slice A T.length a9,.slice Ap P.length Z,.slice Ak K.length Y] 67)=S at *;have c0:S.cell? ⟨w.heap.size,0,none⟩=some (.int .i64 N):=D.cell 0;have c1:S.cell? ⟨w.heap.size,1,none⟩=some (.slice A T.length a9):=D.cell 1;have c2:S.cell? ⟨w.heap.size,2,none⟩=some (.slice Ap P.length Z):=D.cell 2;have c3:S.cell? ⟨w.heap.size,3,none⟩=some (.slice Ak K.length Y):=D.cell 3;by_cases a8:(P.length:Int)=N/\(K.length=0\/K.length=3*T.length)
 case neg =>
  have O:=Zx9 a8;rw[O];by_cases h1:(P.length:Int)=N
  ·have h2:((P.length:Int)!=N)=false:=bne_eq_false_iff_eq.2 h1;have h3:((K.length:Int)!=0)=true:=bne_iff_ne.2 (by omega);have h4:((K.length:Int)!=3*(T.length:Int))=true:=bne_iff_ne.2 (by omega);obtain⟨aw,av,au,ag,V,U,b5,b1⟩:=zz8 hT hP hK D R Q O a8;clear hT hP hK D R Q O a8;go_enter Tryz.func86,Tryz.ntmps86;go_wp2_with fail;all_goals try omega
   go_ret;exact⟨rfl,a7⟩
  ·have h2:((P.length:Int)!=N)=true:=bne_iff_ne.2 h1;obtain⟨aw,av,au,ag,V,U,b5,b1⟩:=zz8 hT hP hK D R Q O a8;clear hT hP hK D R Q O a8;go_enter Tryz.func86,Tryz.ntmps86;go_wp2_with fail;all_goals try omega
   go_ret;exact⟨rfl,a7⟩
 obtain⟨h1,h2⟩:=a8;have h3:((P.length:Int)!=N)=false:=bne_eq_false_iff_eq.2 h1;by_cases am:K.length=0
 ·have h4:((K.length:Int)!=0)=false:=bne_eq_false_iff_eq.2 (by omega);obtain⟨aw,av,au,ag,V,U,b0,aq,ar⟩:=zz9 hT hP hK D R Q am h1 h2;clear hT hP hK D R Q am h1 h2;go_enter Tryz.func86,Tryz.ntmps86;go_wp2_with fail;go_loopw[36] (fun iv wr=>∃k:Nat,k<=P.length/\iv=.int .i64 (k:Int)/\(∀x∈P.take k,ptB x=true)/\Below S.heap.size S wr) (fun iv _=>P.length-(intOf iv).toNat)
  case atStart=>exact⟨0,by omega,rfl,fun x hx=>by simp at hx,zr _ _⟩
  case round =>
   obtain⟨k,hk,rfl,t,z⟩:=hrel;obtain⟨v,ay⟩:∃v,v=wr:=⟨_,rfl⟩;subst ay;have az:=z.size;have M:=a7.trans (z.mono (by omega));by_cases a6:k<P.length
   ·obtain⟨b,o,rfl,hb,a1,a2,a3⟩:=(V.out.below zaaq (z.mono (show B<=S.heap.size by omega))).tri_at a6;have ae:=@mayB_pt N T P K k a6;have ad:=fun h9=>Zsn (p:=ptB) a6 t h9
    generalize P[k]=p at *;obtain⟨h,l,n⟩:=p;simp only[]at a1 a2 a3;have a4:=zr v.heap.size v;have b9:=idx_pt0 h l n;have ba:=idx_pt1 h l n;have bb:=idx_pt2 h l n;obtain⟨L,q,ah⟩:=zz3 t ae ad;clear t ae ad;go_wp2_with fail;go_loopw[41] (fun iv wr=>∃j:Nat,j<=3/\iv=.int .i64 (j:Int)/\(∀m,m<j->vx (h,l,n) m<=1048576 /\ -1048576<=vx (h,l,n) m)/\Below v.heap.size v wr) (fun iv _=>3-(intOf iv).toNat)
    case atStart=>exact⟨0,by omega,rfl,fun m O=>by omega,a4.alloc zl _⟩
    case round =>
     obtain⟨j,hj,rfl,a,F⟩:=hrel;have r:=M.trans (F.mono M.size);have ai:=z.trans (F.mono az);by_cases b8:j<3
     ·rcases(by omega:j=0\/j=1\/j=2)with rfl|rfl|rfl
      ·by_cases y0:1048576<h
       ·have d:=q.out (by unfold ptB;exact zN (by simp only[];omega));obtain⟨g,c⟩:=zz2 a d;clear a d;go_wp2_with fail;all_goals try omega
        go_ret;exact⟨by rw[c.out];rfl,r⟩
       by_cases y1:h < -1048576
       ·have d:=q.out (by unfold ptB;exact zN (by simp only[];omega));obtain⟨g,c⟩:=zz2 a d;clear a d;go_wp2_with fail;all_goals try omega
        go_ret;exact⟨by rw[c.out];rfl,r⟩
       have G:∀m,m<0+1->vx (h,l,n) m<=1048576 /\ -1048576<=vx (h,l,n) m:=fun m O=>by
        by_cases e:m=0
        ·subst e;exact(show h<=1048576 /\ -1048576<=h by omega)
        ·exact a m (by omega)
       obtain⟨g,E⟩:=zz2 a G;clear a G;go_wp2_with fail;all_goals try omega
       exact⟨⟨0+1,by omega,by simp,E.out,F⟩,by simp[intOf]⟩
      ·by_cases y0:1048576<l
       ·have d:=q.out (by unfold ptB;exact zN (by simp only[];omega));obtain⟨g,c⟩:=zz2 a d;clear a d;go_wp2_with fail;all_goals try omega
        go_ret;exact⟨by rw[c.out];rfl,r⟩
       by_cases y1:l < -1048576
       ·have d:=q.out (by unfold ptB;exact zN (by simp only[];omega));obtain⟨g,c⟩:=zz2 a d;clear a d;go_wp2_with fail;all_goals try omega
        go_ret;exact⟨by rw[c.out];rfl,r⟩
       have G:∀m,m<1+1->vx (h,l,n) m<=1048576 /\ -1048576<=vx (h,l,n) m:=fun m O=>by
        by_cases e:m=1
        ·subst e;exact(show l<=1048576 /\ -1048576<=l by omega)
        ·exact a m (by omega)
       obtain⟨g,E⟩:=zz2 a G;clear a G;go_wp2_with fail;all_goals try omega
       exact⟨⟨1+1,by omega,by simp,E.out,F⟩,by simp[intOf]⟩
      ·by_cases y0:1048576<n
       ·have d:=q.out (by unfold ptB;exact zN (by simp only[];omega));obtain⟨g,c⟩:=zz2 a d;clear a d;go_wp2_with fail;all_goals try omega
        go_ret;exact⟨by rw[c.out];rfl,r⟩
       by_cases y1:n < -1048576
       ·have d:=q.out (by unfold ptB;exact zN (by simp only[];omega));obtain⟨g,c⟩:=zz2 a d;clear a d;go_wp2_with fail;all_goals try omega
        go_ret;exact⟨by rw[c.out];rfl,r⟩
       have G:∀m,m<2+1->vx (h,l,n) m<=1048576 /\ -1048576<=vx (h,l,n) m:=fun m O=>by
        by_cases e:m=2
        ·subst e;exact(show n<=1048576 /\ -1048576<=n by omega)
        ·exact a m (by omega)
       obtain⟨g,E⟩:=zz2 a G;clear a G;go_wp2_with fail;all_goals try omega
       exact⟨⟨2+1,by omega,by simp,E.out,F⟩,by simp[intOf]⟩
     ·obtain rfl:j=3:=by omega
      have H:=ah.out (ptB_at.2 a);obtain⟨I,g⟩:=zz2 H a;clear H a;go_wp2_with fail;exact⟨⟨k+1,by omega,by simp,I.out,ai⟩,by simp[intOf];omega⟩
   ·obtain rfl:k=P.length:=by omega
    have ac:=U.out.below zadq (z.mono (show B<=S.heap.size by omega));have e3:=(z.cell (p:=⟨w.heap.size,3,none⟩) (by show w.heap.size<_;omega)).trans c3;have a4:=zr v.heap.size v;obtain⟨L,af⟩:=zz2 t ac;clear t ac;go_wp2_with fail;go_loopw[55] (fun iv wr=>∃i:Nat,i<=K.length/\iv=.int .i64 (i:Int)/\(∀x∈K.take i,valB x=true)/\Below v.heap.size v wr) (fun iv _=>K.length-(intOf iv).toNat)
    case atStart=>exact⟨0,by omega,rfl,fun x hx=>by simp at hx,a4⟩
    case round =>
     obtain⟨i,hi,rfl,f,a0⟩:=hrel;have J:=M.trans (a0.mono M.size);by_cases a5:i<K.length
     ·obtain⟨b,o,rfl,hb,a1⟩:=(af.out.below zadq (a0.mono (show B<=v.heap.size by omega))).int_at a5;have s:=@mayB_val N T P K i a5;have u:=fun h9=>Zsn (p:=valB) a5 f h9
      generalize K[i]=y at *;by_cases y0:y<0
      ·have d:=s (by unfold valB;exact zN (by omega));obtain⟨C,X,W,c⟩:=zz4 f s u d;clear f s u d;go_wp2_with fail;all_goals try omega
       go_ret;exact⟨by rw[c.out];rfl,J⟩
      by_cases y1:65535<y
      ·have d:=s (by unfold valB;exact zN (by omega));obtain⟨C,X,W,c⟩:=zz4 f s u d;clear f s u d;go_wp2_with fail;all_goals try omega
       go_ret;exact⟨by rw[c.out];rfl,J⟩
      have H:=u (by unfold valB;exact zY (by omega));obtain⟨C,X,W,I⟩:=zz4 f s u H;clear f s u H;go_wp2_with fail;all_goals try omega
      exact⟨⟨i+1,by omega,by simp,I.out,a0⟩,by simp[intOf];omega⟩
     ·obtain rfl:i=K.length:=by omega
      have d:mayB N T P K=true:=mayB_ok ⟨aq.out,ar.out⟩ L.out f;obtain⟨C,c⟩:=zz2 f d;clear f d;go_wp2_with fail;go_ret;exact⟨by rw[c.out];rfl,J⟩
 ·have h4:((K.length:Int)!=0)=true:=bne_iff_ne.2 (by omega);have h5:((K.length:Int)!=3*(T.length:Int))=false:=bne_eq_false_iff_eq.2 (by omega);obtain⟨aw,av,au,ag,V,U,b0,aq,ar⟩:=zz9 hT hP hK D R Q am h1 h2;clear hT hP hK D R Q am h1 h2;go_enter Tryz.func86,Tryz.ntmps86;go_wp2_with fail;go_loopw[36] (fun iv wr=>∃k:Nat,k<=P.length/\iv=.int .i64 (k:Int)/\(∀x∈P.take k,ptB x=true)/\Below S.heap.size S wr) (fun iv _=>P.length-(intOf iv).toNat)
  case atStart=>exact⟨0,by omega,rfl,fun x hx=>by simp at hx,zr _ _⟩
  case round =>
   obtain⟨k,hk,rfl,t,z⟩:=hrel;obtain⟨v,ay⟩:∃v,v=wr:=⟨_,rfl⟩;subst ay;have az:=z.size;have M:=a7.trans (z.mono (by omega));by_cases a6:k<P.length
   ·obtain⟨b,o,rfl,hb,a1,a2,a3⟩:=(V.out.below zaaq (z.mono (show B<=S.heap.size by omega))).tri_at a6;have ae:=@mayB_pt N T P K k a6;have ad:=fun h9=>Zsn (p:=ptB) a6 t h9
    generalize P[k]=p at *;obtain⟨h,l,n⟩:=p;simp only[]at a1 a2 a3;have a4:=zr v.heap.size v;have b9:=idx_pt0 h l n;have ba:=idx_pt1 h l n;have bb:=idx_pt2 h l n;obtain⟨L,q,ah⟩:=zz3 t ae ad;clear t ae ad;go_wp2_with fail;go_loopw[41] (fun iv wr=>∃j:Nat,j<=3/\iv=.int .i64 (j:Int)/\(∀m,m<j->vx (h,l,n) m<=1048576 /\ -1048576<=vx (h,l,n) m)/\Below v.heap.size v wr) (fun iv _=>3-(intOf iv).toNat)
    case atStart=>exact⟨0,by omega,rfl,fun m O=>by omega,a4.alloc zl _⟩
    case round =>
     obtain⟨j,hj,rfl,a,F⟩:=hrel;have r:=M.trans (F.mono M.size);have ai:=z.trans (F.mono az);by_cases b8:j<3
     ·rcases(by omega:j=0\/j=1\/j=2)with rfl|rfl|rfl
      ·by_cases y0:1048576<h
       ·have d:=q.out (by unfold ptB;exact zN (by simp only[];omega));obtain⟨g,c⟩:=zz2 a d;clear a d;go_wp2_with fail;all_goals try omega
        go_ret;exact⟨by rw[c.out];rfl,r⟩
       by_cases y1:h < -1048576
       ·have d:=q.out (by unfold ptB;exact zN (by simp only[];omega));obtain⟨g,c⟩:=zz2 a d;clear a d;go_wp2_with fail;all_goals try omega
        go_ret;exact⟨by rw[c.out];rfl,r⟩
       have G:∀m,m<0+1->vx (h,l,n) m<=1048576 /\ -1048576<=vx (h,l,n) m:=fun m O=>by
        by_cases e:m=0
        ·subst e;exact(show h<=1048576 /\ -1048576<=h by omega)
        ·exact a m (by omega)
       obtain⟨g,E⟩:=zz2 a G;clear a G;go_wp2_with fail;all_goals try omega
       exact⟨⟨0+1,by omega,by simp,E.out,F⟩,by simp[intOf]⟩
      ·by_cases y0:1048576<l
       ·have d:=q.out (by unfold ptB;exact zN (by simp only[];omega));obtain⟨g,c⟩:=zz2 a d;clear a d;go_wp2_with fail;all_goals try omega
        go_ret;exact⟨by rw[c.out];rfl,r⟩
       by_cases y1:l < -1048576
       ·have d:=q.out (by unfold ptB;exact zN (by simp only[];omega));obtain⟨g,c⟩:=zz2 a d;clear a d;go_wp2_with fail;all_goals try omega
        go_ret;exact⟨by rw[c.out];rfl,r⟩
       have G:∀m,m<1+1->vx (h,l,n) m<=1048576 /\ -1048576<=vx (h,l,n) m:=fun m O=>by
        by_cases e:m=1
        ·subst e;exact(show l<=1048576 /\ -1048576<=l by omega)
        ·exact a m (by omega)
       obtain⟨g,E⟩:=zz2 a G;clear a G;go_wp2_with fail;all_goals try omega
       exact⟨⟨1+1,by omega,by simp,E.out,F⟩,by simp[intOf]⟩
      ·by_cases y0:1048576<n
       ·have d:=q.out (by unfold ptB;exact zN (by simp only[];omega));obtain⟨g,c⟩:=zz2 a d;clear a d;go_wp2_with fail;all_goals try omega
        go_ret;exact⟨by rw[c.out];rfl,r⟩
       by_cases y1:n < -1048576
       ·have d:=q.out (by unfold ptB;exact zN (by simp only[];omega));obtain⟨g,c⟩:=zz2 a d;clear a d;go_wp2_with fail;all_goals try omega
        go_ret;exact⟨by rw[c.out];rfl,r⟩
       have G:∀m,m<2+1->vx (h,l,n) m<=1048576 /\ -1048576<=vx (h,l,n) m:=fun m O=>by
        by_cases e:m=2
        ·subst e;exact(show n<=1048576 /\ -1048576<=n by omega)
        ·exact a m (by omega)
       obtain⟨g,E⟩:=zz2 a G;clear a G;go_wp2_with fail;all_goals try omega
       exact⟨⟨2+1,by omega,by simp,E.out,F⟩,by simp[intOf]⟩
     ·obtain rfl:j=3:=by omega
      have H:=ah.out (ptB_at.2 a);obtain⟨I,g⟩:=zz2 H a;clear H a;go_wp2_with fail;exact⟨⟨k+1,by omega,by simp,I.out,ai⟩,by simp[intOf];omega⟩
   ·obtain rfl:k=P.length:=by omega
    have ac:=U.out.below zadq (z.mono (show B<=S.heap.size by omega));have e3:=(z.cell (p:=⟨w.heap.size,3,none⟩) (by show w.heap.size<_;omega)).trans c3;have a4:=zr v.heap.size v;obtain⟨L,af⟩:=zz2 t ac;clear t ac;go_wp2_with fail;go_loopw[55] (fun iv wr=>∃i:Nat,i<=K.length/\iv=.int .i64 (i:Int)/\(∀x∈K.take i,valB x=true)/\Below v.heap.size v wr) (fun iv _=>K.length-(intOf iv).toNat)
    case atStart=>exact⟨0,by omega,rfl,fun x hx=>by simp at hx,a4⟩
    case round =>
     obtain⟨i,hi,rfl,f,a0⟩:=hrel;have J:=M.trans (a0.mono M.size);by_cases a5:i<K.length
     ·obtain⟨b,o,rfl,hb,a1⟩:=(af.out.below zadq (a0.mono (show B<=v.heap.size by omega))).int_at a5;have s:=@mayB_val N T P K i a5;have u:=fun h9=>Zsn (p:=valB) a5 f h9
      generalize K[i]=y at *;by_cases y0:y<0
      ·have d:=s (by unfold valB;exact zN (by omega));obtain⟨C,X,W,c⟩:=zz4 f s u d;clear f s u d;go_wp2_with fail;all_goals try omega
       go_ret;exact⟨by rw[c.out];rfl,J⟩
      by_cases y1:65535<y
      ·have d:=s (by unfold valB;exact zN (by omega));obtain⟨C,X,W,c⟩:=zz4 f s u d;clear f s u d;go_wp2_with fail;all_goals try omega
       go_ret;exact⟨by rw[c.out];rfl,J⟩
      have H:=u (by unfold valB;exact zY (by omega));obtain⟨C,X,W,I⟩:=zz4 f s u H;clear f s u H;go_wp2_with fail;all_goals try omega
      exact⟨⟨i+1,by omega,by simp,I.out,a0⟩,by simp[intOf];omega⟩
     ·obtain rfl:i=K.length:=by omega
      have d:mayB N T P K=true:=mayB_ok ⟨aq.out,ar.out⟩ L.out f;obtain⟨C,c⟩:=zz2 f d;clear f d;go_wp2_with fail;go_ret;exact⟨by rw[c.out];rfl,J⟩
open Go Go.RowKit Go.Words Go.Mesh
def MayC(N:Int)(T P:List T3)(K:List Int)(c:Int):Prop:=(¬Surf N T/\c=11)\/(Surf N T/\c=if mayB N T P K=true then 0 else 1)
theorem refmay_calls{w:World}{B:Nat}{sv pv kv:Value}{N:Int}{T P:List T3}{K:List Int}(hB0:B<=w.heap.size)(hT:Sl 3 RTri w B sv T)(hP:Sl 3 RTri w B pv P)(hK:Sl 1 RInt w B kv K)(hTl:T.length<=200)(hPl:P.length<=100000)(hKl:K.length<=1000000) :
  Calls Tryz.prog 88 #[.agg #[.int .i64 N,sv,pv,kv]] w fun e w'=>(∃c,e=.returned (.int .i64 c)/\MayC N T P K c)/\Below w.heap.size w w':=by
 obtain⟨A,Y,rfl,bu⟩:=hT.form;obtain⟨Ap,a0,rfl,bn⟩:=hP.form;obtain⟨Ak,Z,rfl,bm⟩:=hK.form;have ak:=(zr w.heap.size w).alloc zl (.cells #[.int .i64 N,.slice A T.length Y,.slice Ap P.length a0,.slice Ak K.length Z] 67);have an:=Bk.new w 67 [.int .i64 N,.slice A T.length Y,.slice Ap P.length a0,.slice Ak K.length Z];have c3:w.heap.size+1<=(w.alloc (.cells #[.int .i64 N,.slice A T.length Y,.slice Ap P.length a0,.slice Ak K.length Z] 67)).heap.size:=by simp
 have ax:=hT.below zaaq (ak.mono hB0);have b1:=hP.below zaaq (ak.mono hB0);have az:=hK.below zadq (ak.mono hB0);generalize bk:w.alloc (.cells #[.int .i64 N,.slice A T.length Y,.slice Ap P.length a0,.slice Ak K.length Z] 67)=w0 at *;have c0:w0.cell? ⟨w.heap.size,0,none⟩=some (.int .i64 N):=an.cell 0;have c1:w0.cell? ⟨w.heap.size,1,none⟩=some (.slice A T.length Y):=an.cell 1;have b2:=Ze9 (.slice A T.length Y) N T w0 (B:=B) (by omega) ax hTl;obtain⟨c2,bz,bx,bo,b4,b3,b6,b8⟩:=zz8 hT hP hK ax b1 az an b2;clear hT hP hK ax b1 az an b2;go_enter Tryz.func88,Tryz.ntmps88;go_wp2_with fail;clear bk;refine b8.out.mono ?_;rintro e S ⟨bc,aa⟩;have c4:=aa.size;have L:=ak.trans (aa.mono (by omega));obtain⟨b0,rfl,ae⟩:=bc;cases b0 with
 | false =>
  have hs:¬Surf N T:=fun h9=>by have:=ae.2 h9;cases this
  obtain⟨l,bp⟩:=zz2 hs ae;clear hs ae;go_wp2_with fail;go_ret;exact⟨⟨11,rfl,.inl ⟨l.out,rfl⟩⟩,L⟩
 | true =>
  have hs:=ae.1 rfl;clear ae;have E:=b6.out.below aa (by omega);have Q:=b4.out.below zaaq (aa.mono (by omega));have O:=b3.out.below zadq (aa.mono (by omega));have d0:S.cell? ⟨w.heap.size,0,none⟩=some (.int .i64 N):=E.cell 0;have d1:S.cell? ⟨w.heap.size,1,none⟩=some (.slice A T.length Y):=E.cell 1;have d2:S.cell? ⟨w.heap.size,2,none⟩=some (.slice Ap P.length a0):=E.cell 2;have d3:S.cell? ⟨w.heap.size,3,none⟩=some (.slice Ak K.length Z):=E.cell 3;by_cases a7:(P.length:Int)=N/\(K.length=0\/K.length=3*T.length)
  case neg =>
   have R:=Zx9 a7;by_cases h1:(P.length:Int)=N
   ·have h2:((P.length:Int)!=N)=false:=bne_eq_false_iff_eq.2 h1;have h3:((K.length:Int)!=0)=true:=bne_iff_ne.2 (by omega);have h4:((K.length:Int)!=3*(T.length:Int))=true:=bne_iff_ne.2 (by omega);obtain⟨l,ag,V,U,av,b7⟩:=zz6 hs E Q O R a7;clear hs E Q O R a7;go_wp2_with fail;all_goals try omega
    go_ret;exact⟨⟨1,rfl,.inr ⟨l.out,by rw[av.out];rfl⟩⟩,L⟩
   ·have h2:((P.length:Int)!=N)=true:=bne_iff_ne.2 h1;obtain⟨l,ag,V,U,av,b7⟩:=zz6 hs E Q O R a7;clear hs E Q O R a7;go_wp2_with fail;all_goals try omega
    go_ret;exact⟨⟨1,rfl,.inr ⟨l.out,by rw[av.out];rfl⟩⟩,L⟩
  obtain⟨h1,h2⟩:=a7;have h3:((P.length:Int)!=N)=false:=bne_eq_false_iff_eq.2 h1;by_cases am:K.length=0
  ·have h4:((K.length:Int)!=0)=false:=bne_eq_false_iff_eq.2 (by omega);obtain⟨l,ag,V,U,b5,ar,au⟩:=zz7 hs E Q O am h1 h2;clear hs E Q O am h1 h2;go_wp2_with fail;go_loopw[3] (fun iv wr=>∃k:Nat,k<=P.length/\iv=.int .i64 (k:Int)/\(∀x∈P.take k,ptB x=true)/\Below S.heap.size S wr) (fun iv _=>P.length-(intOf iv).toNat)
   case atStart=>exact⟨0,by omega,rfl,fun x hx=>by simp at hx,zr _ _⟩
   case round =>
    obtain⟨k,hk,rfl,v,z⟩:=hrel;obtain⟨M,ay⟩:∃M,M=wr:=⟨_,rfl⟩;subst ay;have bl:=z.size;have n:=L.trans (z.mono (by omega));have e2:=(z.cell (p:=⟨w.heap.size,2,none⟩) (by show w.heap.size<_;omega)).trans d2;have e3:=(z.cell (p:=⟨w.heap.size,3,none⟩) (by show w.heap.size<_;omega)).trans d3;by_cases a5:k<P.length
    ·obtain⟨b,o,rfl,hb,a1,a2,a3⟩:=(V.out.below zaaq (z.mono (show B<=S.heap.size by omega))).tri_at a5;have ad:=@mayB_pt N T P K k a5;have ac:=fun h9=>Zsn (p:=ptB) a5 v h9
     generalize P[k]=p at *;obtain⟨s,t,u⟩:=p;simp only[]at a1 a2 a3;have bi:=zr M.heap.size M;obtain⟨J,q,ah⟩:=zz3 v ad ac;clear v ad ac;go_wp2_with fail;go_loopw[4] (fun iv wr=>∃j:Nat,j<=3/\iv=.int .i64 (j:Int)/\(∀m,m<j->vx (s,t,u) m<=1048576 /\ -1048576<=vx (s,t,u) m)/\wr=M) (fun iv _=>3-(intOf iv).toNat)
     case atStart=>exact⟨0,by omega,rfl,fun m R=>by omega,rfl⟩
     case round =>
      obtain⟨j,hj,rfl,a,rfl⟩:=hrel;by_cases bj:j<3
      ·rcases(by omega:j=0\/j=1\/j=2)with rfl|rfl|rfl
       ·by_cases y0:1048576<s
        ·have f:=q.out (by unfold ptB;exact zN (by simp only[];omega));obtain⟨h,d⟩:=zz2 a f;clear a f;go_wp2_with fail;all_goals try omega
         go_ret;exact⟨⟨1,rfl,.inr ⟨l.out,by rw[d.out];rfl⟩⟩,n⟩
        by_cases y1:s < -1048576
        ·have f:=q.out (by unfold ptB;exact zN (by simp only[];omega));obtain⟨h,d⟩:=zz2 a f;clear a f;go_wp2_with fail;all_goals try omega
         go_ret;exact⟨⟨1,rfl,.inr ⟨l.out,by rw[d.out];rfl⟩⟩,n⟩
        have G:∀m,m<0+1->vx (s,t,u) m<=1048576 /\ -1048576<=vx (s,t,u) m:=fun m R=>by
         by_cases e:m=0
         ·subst e;exact(show s<=1048576 /\ -1048576<=s by omega)
         ·exact a m (by omega)
        obtain⟨h,F⟩:=zz2 a G;clear a G;go_wp2_with fail;all_goals try omega
        exact⟨⟨0+1,by omega,by simp,F.out,by first|rfl|trivial⟩,by simp[intOf]⟩
       ·by_cases y0:1048576<t
        ·have f:=q.out (by unfold ptB;exact zN (by simp only[];omega));obtain⟨h,d⟩:=zz2 a f;clear a f;go_wp2_with fail;all_goals try omega
         go_ret;exact⟨⟨1,rfl,.inr ⟨l.out,by rw[d.out];rfl⟩⟩,n⟩
        by_cases y1:t < -1048576
        ·have f:=q.out (by unfold ptB;exact zN (by simp only[];omega));obtain⟨h,d⟩:=zz2 a f;clear a f;go_wp2_with fail;all_goals try omega
         go_ret;exact⟨⟨1,rfl,.inr ⟨l.out,by rw[d.out];rfl⟩⟩,n⟩
        have G:∀m,m<1+1->vx (s,t,u) m<=1048576 /\ -1048576<=vx (s,t,u) m:=fun m R=>by
         by_cases e:m=1
         ·subst e;exact(show t<=1048576 /\ -1048576<=t by omega)
         ·exact a m (by omega)
        obtain⟨h,F⟩:=zz2 a G;clear a G;go_wp2_with fail;all_goals try omega
        exact⟨⟨1+1,by omega,by simp,F.out,by first|rfl|trivial⟩,by simp[intOf]⟩
       ·by_cases y0:1048576<u
        ·have f:=q.out (by unfold ptB;exact zN (by simp only[];omega));obtain⟨h,d⟩:=zz2 a f;clear a f;go_wp2_with fail;all_goals try omega
         go_ret;exact⟨⟨1,rfl,.inr ⟨l.out,by rw[d.out];rfl⟩⟩,n⟩
        by_cases y1:u < -1048576
        ·have f:=q.out (by unfold ptB;exact zN (by simp only[];omega));obtain⟨h,d⟩:=zz2 a f;clear a f;go_wp2_with fail;all_goals try omega
         go_ret;exact⟨⟨1,rfl,.inr ⟨l.out,by rw[d.out];rfl⟩⟩,n⟩
        have G:∀m,m<2+1->vx (s,t,u) m<=1048576 /\ -1048576<=vx (s,t,u) m:=fun m R=>by
         by_cases e:m=2
         ·subst e;exact(show u<=1048576 /\ -1048576<=u by omega)
         ·exact a m (by omega)
        obtain⟨h,F⟩:=zz2 a G;clear a G;go_wp2_with fail;all_goals try omega
        exact⟨⟨2+1,by omega,by simp,F.out,by first|rfl|trivial⟩,by simp[intOf]⟩
      ·obtain rfl:j=3:=by omega
       have H:=ah.out (ptB_at.2 a);obtain⟨I,h⟩:=zz2 H a;clear H a;go_wp2_with fail;exact⟨⟨k+1,by omega,by simp,I.out,z⟩,by simp[intOf];omega⟩
    ·obtain rfl:k=P.length:=by omega
     have a9:=U.out.below zadq (z.mono (show B<=S.heap.size by omega));obtain⟨J,af⟩:=zz2 v a9;clear v a9;go_wp2_with fail;go_loopw[5] (fun iv wr=>∃i:Nat,i<=K.length/\iv=.int .i64 (i:Int)/\(∀x∈K.take i,valB x=true)/\wr=M) (fun iv _=>K.length-(intOf iv).toNat)
     case atStart=>exact⟨0,by omega,rfl,fun x hx=>by simp at hx,rfl⟩
     case round =>
      obtain⟨i,hi,rfl,g,rfl⟩:=hrel;by_cases a4:i<K.length
      ·obtain⟨b,o,rfl,hb,a1⟩:=af.out.int_at a4;have r:=@mayB_val N T P K i a4;have C:=fun h9=>Zsn (p:=valB) a4 g h9
       generalize K[i]=y at *;by_cases y0:y<0
       ·have f:=r (by unfold valB;exact zN (by omega));obtain⟨D,X,W,d⟩:=zz4 g r C f;clear g r C f;go_wp2_with fail;all_goals try omega
        go_ret;exact⟨⟨1,rfl,.inr ⟨l.out,by rw[d.out];rfl⟩⟩,n⟩
       by_cases y1:65535<y
       ·have f:=r (by unfold valB;exact zN (by omega));obtain⟨D,X,W,d⟩:=zz4 g r C f;clear g r C f;go_wp2_with fail;all_goals try omega
        go_ret;exact⟨⟨1,rfl,.inr ⟨l.out,by rw[d.out];rfl⟩⟩,n⟩
       have H:=C (by unfold valB;exact zY (by omega));obtain⟨D,X,W,I⟩:=zz4 g r C H;clear g r C H;go_wp2_with fail;all_goals try omega
       exact⟨⟨i+1,by omega,by simp,I.out,by first|rfl|trivial⟩,by simp[intOf];omega⟩
      ·obtain rfl:i=K.length:=by omega
       have f:mayB N T P K=true:=mayB_ok ⟨ar.out,au.out⟩ J.out g;obtain⟨D,d⟩:=zz2 g f;clear g f;go_wp2_with fail;go_ret;exact⟨⟨0,rfl,.inr ⟨l.out,by rw[d.out];rfl⟩⟩,n⟩
  ·have h4:((K.length:Int)!=0)=true:=bne_iff_ne.2 (by omega);have h5:((K.length:Int)!=3*(T.length:Int))=false:=bne_eq_false_iff_eq.2 (by omega);obtain⟨l,ag,V,U,b5,ar,au⟩:=zz7 hs E Q O am h1 h2;clear hs E Q O am h1 h2;go_wp2_with fail;go_loopw[3] (fun iv wr=>∃k:Nat,k<=P.length/\iv=.int .i64 (k:Int)/\(∀x∈P.take k,ptB x=true)/\Below S.heap.size S wr) (fun iv _=>P.length-(intOf iv).toNat)
   case atStart=>exact⟨0,by omega,rfl,fun x hx=>by simp at hx,zr _ _⟩
   case round =>
    obtain⟨k,hk,rfl,v,z⟩:=hrel;obtain⟨M,ay⟩:∃M,M=wr:=⟨_,rfl⟩;subst ay;have bl:=z.size;have n:=L.trans (z.mono (by omega));have e2:=(z.cell (p:=⟨w.heap.size,2,none⟩) (by show w.heap.size<_;omega)).trans d2;have e3:=(z.cell (p:=⟨w.heap.size,3,none⟩) (by show w.heap.size<_;omega)).trans d3;by_cases a5:k<P.length
    ·obtain⟨b,o,rfl,hb,a1,a2,a3⟩:=(V.out.below zaaq (z.mono (show B<=S.heap.size by omega))).tri_at a5;have ad:=@mayB_pt N T P K k a5;have ac:=fun h9=>Zsn (p:=ptB) a5 v h9
     generalize P[k]=p at *;obtain⟨s,t,u⟩:=p;simp only[]at a1 a2 a3;have bi:=zr M.heap.size M;obtain⟨J,q,ah⟩:=zz3 v ad ac;clear v ad ac;go_wp2_with fail;go_loopw[4] (fun iv wr=>∃j:Nat,j<=3/\iv=.int .i64 (j:Int)/\(∀m,m<j->vx (s,t,u) m<=1048576 /\ -1048576<=vx (s,t,u) m)/\wr=M) (fun iv _=>3-(intOf iv).toNat)
     case atStart=>exact⟨0,by omega,rfl,fun m R=>by omega,rfl⟩
     case round =>
      obtain⟨j,hj,rfl,a,rfl⟩:=hrel;by_cases bj:j<3
      ·rcases(by omega:j=0\/j=1\/j=2)with rfl|rfl|rfl
       ·by_cases y0:1048576<s
        ·have f:=q.out (by unfold ptB;exact zN (by simp only[];omega));obtain⟨h,d⟩:=zz2 a f;clear a f;go_wp2_with fail;all_goals try omega
         go_ret;exact⟨⟨1,rfl,.inr ⟨l.out,by rw[d.out];rfl⟩⟩,n⟩
        by_cases y1:s < -1048576
        ·have f:=q.out (by unfold ptB;exact zN (by simp only[];omega));obtain⟨h,d⟩:=zz2 a f;clear a f;go_wp2_with fail;all_goals try omega
         go_ret;exact⟨⟨1,rfl,.inr ⟨l.out,by rw[d.out];rfl⟩⟩,n⟩
        have G:∀m,m<0+1->vx (s,t,u) m<=1048576 /\ -1048576<=vx (s,t,u) m:=fun m R=>by
         by_cases e:m=0
         ·subst e;exact(show s<=1048576 /\ -1048576<=s by omega)
         ·exact a m (by omega)
        obtain⟨h,F⟩:=zz2 a G;clear a G;go_wp2_with fail;all_goals try omega
        exact⟨⟨0+1,by omega,by simp,F.out,by first|rfl|trivial⟩,by simp[intOf]⟩
       ·by_cases y0:1048576<t
        ·have f:=q.out (by unfold ptB;exact zN (by simp only[];omega));obtain⟨h,d⟩:=zz2 a f;clear a f;go_wp2_with fail;all_goals try omega
         go_ret;exact⟨⟨1,rfl,.inr ⟨l.out,by rw[d.out];rfl⟩⟩,n⟩
        by_cases y1:t < -1048576
        ·have f:=q.out (by unfold ptB;exact zN (by simp only[];omega));obtain⟨h,d⟩:=zz2 a f;clear a f;go_wp2_with fail;all_goals try omega
         go_ret;exact⟨⟨1,rfl,.inr ⟨l.out,by rw[d.out];rfl⟩⟩,n⟩
        have G:∀m,m<1+1->vx (s,t,u) m<=1048576 /\ -1048576<=vx (s,t,u) m:=fun m R=>by
         by_cases e:m=1
         ·subst e;exact(show t<=1048576 /\ -1048576<=t by omega)
         ·exact a m (by omega)
        obtain⟨h,F⟩:=zz2 a G;clear a G;go_wp2_with fail;all_goals try omega
        exact⟨⟨1+1,by omega,by simp,F.out,by first|rfl|trivial⟩,by simp[intOf]⟩
       ·by_cases y0:1048576<u
        ·have f:=q.out (by unfold ptB;exact zN (by simp only[];omega));obtain⟨h,d⟩:=zz2 a f;clear a f;go_wp2_with fail;all_goals try omega
         go_ret;exact⟨⟨1,rfl,.inr ⟨l.out,by rw[d.out];rfl⟩⟩,n⟩
        by_cases y1:u < -1048576
        ·have f:=q.out (by unfold ptB;exact zN (by simp only[];omega));obtain⟨h,d⟩:=zz2 a f;clear a f;go_wp2_with fail;all_goals try omega
         go_ret;exact⟨⟨1,rfl,.inr ⟨l.out,by rw[d.out];rfl⟩⟩,n⟩
        have G:∀m,m<2+1->vx (s,t,u) m<=1048576 /\ -1048576<=vx (s,t,u) m:=fun m R=>by
         by_cases e:m=2
         ·subst e;exact(show u<=1048576 /\ -1048576<=u by omega)
         ·exact a m (by omega)
        obtain⟨h,F⟩:=zz2 a G;clear a G;go_wp2_with fail;all_goals try omega
        exact⟨⟨2+1,by omega,by simp,F.out,by first|rfl|trivial⟩,by simp[intOf]⟩
      ·obtain rfl:j=3:=by omega
       have H:=ah.out (ptB_at.2 a);obtain⟨I,h⟩:=zz2 H a;clear H a;go_wp2_with fail;exact⟨⟨k+1,by omega,by simp,I.out,z⟩,by simp[intOf];omega⟩
    ·obtain rfl:k=P.length:=by omega
     have a9:=U.out.below zadq (z.mono (show B<=S.heap.size by omega));obtain⟨J,af⟩:=zz2 v a9;clear v a9;go_wp2_with fail;go_loopw[5] (fun iv wr=>∃i:Nat,i<=K.length/\iv=.int .i64 (i:Int)/\(∀x∈K.take i,valB x=true)/\wr=M) (fun iv _=>K.length-(intOf iv).toNat)
     case atStart=>exact⟨0,by omega,rfl,fun x hx=>by simp at hx,rfl⟩
     case round =>
      obtain⟨i,hi,rfl,g,rfl⟩:=hrel;by_cases a4:i<K.length
      ·obtain⟨b,o,rfl,hb,a1⟩:=af.out.int_at a4;have r:=@mayB_val N T P K i a4;have C:=fun h9=>Zsn (p:=valB) a4 g h9
       generalize K[i]=y at *;by_cases y0:y<0
       ·have f:=r (by unfold valB;exact zN (by omega));obtain⟨D,X,W,d⟩:=zz4 g r C f;clear g r C f;go_wp2_with fail;all_goals try omega
        go_ret;exact⟨⟨1,rfl,.inr ⟨l.out,by rw[d.out];rfl⟩⟩,n⟩
       by_cases y1:65535<y
       ·have f:=r (by unfold valB;exact zN (by omega));obtain⟨D,X,W,d⟩:=zz4 g r C f;clear g r C f;go_wp2_with fail;all_goals try omega
        go_ret;exact⟨⟨1,rfl,.inr ⟨l.out,by rw[d.out];rfl⟩⟩,n⟩
       have H:=C (by unfold valB;exact zY (by omega));obtain⟨D,X,W,I⟩:=zz4 g r C H;clear g r C H;go_wp2_with fail;all_goals try omega
       exact⟨⟨i+1,by omega,by simp,I.out,by first|rfl|trivial⟩,by simp[intOf];omega⟩
      ·obtain rfl:i=K.length:=by omega
       have f:mayB N T P K=true:=mayB_ok ⟨ar.out,au.out⟩ J.out g;obtain⟨D,d⟩:=zz2 g f;clear g f;go_wp2_with fail;go_ret;exact⟨⟨0,rfl,.inr ⟨l.out,by rw[d.out];rfl⟩⟩,n⟩
theorem Zjf{w:World}{B:Nat}{sv pv kv:Value}{N:Int}{T P:List T3}{K:List Int}(hB0:B<=w.heap.size)(hT:Sl 3 RTri w B sv T)(hP:Sl 3 RTri w B pv P)(hK:Sl 1 RInt w B kv K)(hTl:T.length<=200)(hPl:P.length<=100000)(hKl:K.length<=1000000) :
  Calls Tryz.prog 40 #[.agg #[.int .i64 N,sv,pv,kv]] w fun e w'=>(∃c,e=.returned (.int .i64 c)/\MayC N T P K c)/\Below w.heap.size w w':=by
 obtain⟨A,f,rfl,D⟩:=hT.form;obtain⟨i,b,rfl,v⟩:=hP.form;obtain⟨h,a,rfl,u⟩:=hK.form;have g:=(zr w.heap.size w).alloc zl (.cells #[.int .i64 N,.slice A T.length f,.slice i P.length b,.slice h K.length a] 67);have d:=Bk.new w 67 [.int .i64 N,.slice A T.length f,.slice i P.length b,.slice h K.length a];have H:w.heap.size+1<=(w.alloc (.cells #[.int .i64 N,.slice A T.length f,.slice i P.length b,.slice h K.length a] 67)).heap.size:=by simp
 have l:=hT.below zaaq (g.mono hB0);have k:=hP.below zaaq (g.mono hB0);have j:=hK.below zadq (g.mono hB0);generalize t:w.alloc (.cells #[.int .i64 N,.slice A T.length f,.slice i P.length b,.slice h K.length a] 67)=m at *;have I:m.cell? ⟨w.heap.size,0,none⟩=some (.int .i64 N):=d.cell 0;have J:m.cell? ⟨w.heap.size,1,none⟩=some (.slice A T.length f):=d.cell 1;have L:m.cell? ⟨w.heap.size,2,none⟩=some (.slice i P.length b):=d.cell 2;have M:m.cell? ⟨w.heap.size,3,none⟩=some (.slice h K.length a):=d.cell 3;have s:=refmay_calls (w:=m) (B:=B) (N:=N) (by omega) l k j hTl hPl hKl;obtain⟨G,F,E,z,y,x,C,p⟩:=zz8 hT hP hK l k j d s;clear hT hP hK l k j d s;go_enter Tryz.func40,Tryz.ntmps40;go_wp2_with fail;clear t;refine p.out.mono ?_;rintro e O ⟨⟨c,rfl,r⟩,q⟩;have n:=g.trans (q.mono (by omega));have o:=zz r;clear r;go_wp2_with fail;go_ret;exact⟨⟨c,rfl,o.out⟩,n⟩
