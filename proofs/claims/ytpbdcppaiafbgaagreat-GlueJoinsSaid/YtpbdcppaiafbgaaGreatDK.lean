/- The law BayNear, walked. The law BayMore, walked. Za6: a. -/
import Derived.Test.YtpbdcppaiafbgaaGreatDI
import Derived.Test.YtpbdcppaiafbgaaGreatApp
import Derived.Test.YtpbdcppaiafbgaaGreatFP
set_option maxRecDepth 100000
set_option maxHeartbeats 8000000
namespace Go.Proofs.YtpbdcppaiafbgaaGreat
open Go Go.RowKit Go.Words Go.Mesh
end Go.Proofs.YtpbdcppaiafbgaaGreat
namespace Go.Mesh
section
variable {N : Int} {T : List T3}
end
end Go.Mesh
namespace Go.Proofs.YtpbdcppaiafbgaaGreat
open Go Go.RowKit Go.Words Go.Mesh
end Go.Proofs.YtpbdcppaiafbgaaGreat
namespace Go.Mesh
section
variable {N : Int} {T : List T3} {S : List Nat}
variable {seen : List Bool} {W : List Nat} {i k j : Nat}
end
end Go.Mesh
namespace Go.Proofs.YtpbdcppaiafbgaaGreat
open Go Go.RowKit Go.Words Go.Mesh
theorem Zvp{w:World}{g base size n:Nat}{e:TypeId}{v u:Value}{xs:List Value}(h:w.ownsRow base e size v n xs)(hb:g<base)(i:Nat):(w.setCell ⟨g,i,none⟩ u).ownsRow base e size v n xs :=
 h.kept (row:=some g) ⟨rfl,rfl,rfl,(KeepsWalks.setCell w _ _).size,fun b _ hbb=>Below.heap_setCell _ _ _ b (fun e=>hbb (by rw[e]))⟩ (.inr fun e=>by have:=(h.lt _ e).1;omega)
open Go Go.RowKit Go.Words Go.Mesh
def OfOut(w w':World)(T:List T3)(e:Ending):Prop:=∃(g:Nat) (out:List Int) (C:Nat),e=.returned (.slice (some ⟨g,0,none⟩) T.length T.length)/\Bk w' g 3 (ivals out)/\Pt T out C T.length/\w.heap.size<=g
theorem Zpi{w:World}{B:Nat}{tv:Value}{N:Int}{T:List T3}(h:Tab w B tv N T)(hs:Surf N T) :
  Calls Tryz.prog 34 #[tv] w fun e K=>OfOut w K T e/\Below w.heap.size w K:=by
 have c3:=Ztb h;have bd:∀wz (c:Nat),Below w.heap.size w wz->c<3*T.length->Calls Tryz.prog 27 #[tv,.int .i64 (c:Int)] wz fun e K=>e=.returned (.int .i64 (match opp T c with|some d=>(d:Int)|none=>-1))/\Below wz.heap.size wz K:=fun wz c hz hc=>by
  have:=Zfx (h.below hz h.le) hs (c:Int);rw[Zk9 hc]at this;exact this
 have d6:=hs.tmax;have cm:=Zaq (P:=Tryz.prog) 28 Tryz.underlying28 Zap rfl T.length (by omega) (by omega);have ba:∀W:World,Bk (W.alloc (.cells (Array.replicate T.length (.int .i64 0)) 3)) W.heap.size 3 (ivals (List.replicate T.length (0:Int))):=fun W=>by
  have:=Bk.new W 3 (ivals (List.replicate T.length (0:Int)))
  rwa [show(ivals (List.replicate T.length (0:Int))).toArray=Array.replicate T.length (.int .i64 0) by unfold ivals;rw[List.map_replicate,List.toArray_replicate]]at this
 have a2:=ba w;have au:=(zr w.heap.size w).alloc zl (.cells (Array.replicate T.length (.int .i64 0)) 3);obtain⟨g,hg⟩:∃g,g=w.heap.size:=⟨_,rfl⟩;have dr:g<(w.alloc (.cells (Array.replicate T.length (.int .i64 0)) 3)).heap.size:=by simp;omega
 rw[<- hg]at a2;have bz:=hg.symm;obtain⟨Hh,b5,bn,c9,a3,az,bv,b0⟩:=zz8 h c3 bd ba a2 au hg bz;clear h c3 bd ba a2 au hg bz;go_enter Tryz.func34,Tryz.ntmps34;go_wp2_with fail;refine b5.out.mono ?_;rintro e K ⟨rfl,rfl⟩;go_wp2_with fail;rw[b0.out];have a2:=a3.out;have au:=az.out;have av:K.heap.size<=g:=by rw[bv.out];exact zl
 clear cm a3 az c9 bv b0 b5;generalize K.alloc (.cells (Array.replicate T.length (.int .i64 0)) 3)=w1 at *;have a3:=zz a2;clear a2;go_loopw[16] (fun iv wr=>∃(k:Nat) (out:List Int),k<=T.length/\iv=.int .i64 (k:Int)/\out.length=T.length/\(∀x,x<k->out[x]? = some (-1))/\Bk wr g 3 (ivals out)/\Below K.heap.size K wr) (fun iv _=>T.length-(intOf iv).toNat)
 case atStart=>exact⟨0,List.replicate T.length 0,by omega,rfl,by simp,fun x hx=>absurd hx (by omega),a3.out,au⟩
 case round =>
  obtain⟨k,out,hk,rfl,ak,H,q,a⟩:=hrel;by_cases dk:k<T.length
  ·have af:∀x,x<k+1->(out.set k (-1))[x]? = some (-1):=fun x hx=>by
    by_cases c4:x=k
    ·rw[c4,Zb5 (by omega)]
    ·rw[Zax c4];exact H x (by omega)
   have cz:=(q.cell k).trans (Za3 (zG (l:=out) (by omega:k<out.length)));have fz:=q.frozen k;have S:=q.set k (.int .i64 (-1));rw[Zgu]at S;have D:=a.setCell (p:=⟨g,k,none⟩) av (.int .i64 (-1));have d7:(k:Int)<(T.length:Int):=by omega
   obtain⟨b,a8,ax,ai,U⟩:=zz5 q H af S D;clear q H af S D;go_wp2_with fail;exact⟨⟨k+1,_,by omega,by simp,by rw[List.length_set];exact ak,ax.out,ai.out,U.out⟩,by simp[intOf];omega⟩
  ·obtain rfl:k=T.length:=by omega
   have v:=Pt.start ak H;have ce:=q.lt;obtain⟨b,a8,Q⟩:=zz3 q H v;clear q H v;go_wp2_with fail;go_loopw[5,25] (fun nv iv wr=>∃(n p:Nat) (out:List Int),p<=T.length/\iv=.int .i64 (p:Int)/\nv=.int .i64 (n:Int)/\Pt T out n p/\Bk wr g 3 (ivals out)/\Below K.heap.size K wr) (fun _ iv _=>T.length-(intOf iv).toNat)
   case atStart=>exact⟨0,0,out,by omega,rfl,rfl,Q.out,b.out,a⟩
   case round =>
    clear a b a8 Q ak ce hk;obtain⟨n,p,out,hp,rfl,rfl,v,q,a⟩:=hrel;obtain⟨w2,cn⟩:∃w2,w2=wr:=⟨_,rfl⟩;subst cn;by_cases aw:p<T.length
    ·have d9:(p:Int)<(T.length:Int):=by omega
     obtain⟨d,hd,dd,de⟩:=v.val aw;have cp:=(q.cell p).trans (Za3 hd);by_cases am:d<0
     ·obtain rfl:d = -1:=by omega
      have dm:=v.np;have j:=Bf.start (n:=n) v.len aw;have fz:=q.frozen p;have S:=q.set p (.int .i64 (n:Int));rw[Zgu]at S;have D:=a.setCell (p:=⟨g,p,none⟩) av (.int .i64 (n:Int));have di:=q.lt;have an:=Zq5 (w:=w2.setCell ⟨g,p,none⟩ (.int .i64 (n:Int))) (base:=g+1) (e:=3) (.int .i64 (p:Int)) (by simp;omega);have b8:=S.alloc (.cells #[.int .i64 (p:Int)] 3);have ac:=D.alloc D.size (.cells #[.int .i64 (p:Int)] 3);have bc:=fun o row (hb:Bf T out o row n p row.length 0)=>hb.all hs v aw hd
      have bg:=fun o row i k x (hb:Bf T out o row n p i k) (hx:x<T.length)=>hb.val v hx
      clear am;have be:(w2.setCell ⟨g,p,none⟩ (.int .i64 (n:Int))).heap.size=w2.heap.size:=by simp
      rw[be]at an;have c7:g<((w2.setCell ⟨g,p,none⟩ (.int .i64 (n:Int))).alloc (.cells #[.int .i64 (p:Int)] 3)).heap.size:=by simp;omega
      obtain⟨b,Q,cg,C,ai,ap,U,Z,ar,bl,bo,cb⟩:=zz12 q v hd j S b8 D ac an bc bg be;clear q v hd j S b8 D ac an bc bg be;go_wp2_with fail;clear cp fz;obtain⟨w3,bh⟩:∃w3,w3=(w2.setCell ⟨g,p,none⟩ (.int .i64 (n:Int))).alloc (.cells #[.int .i64 (p:Int)] 3):=⟨_,rfl⟩;rw[<- bh]at c7 ⊢;have a6:=ar.out;have b3:=ap.out;have a5:=Z.out;rw[<- bh]at a6 b3 a5;clear bh ar ap Z ai U cb b a;obtain⟨a9,bu⟩:=zz2 a6 b3;clear a6 b3;go_loopw[7,8] (fun rv iv wr=>∃(i:Nat) (row:List Nat) (o:List Int),i<=row.length/\iv=.int .i64 (i:Int)/\wr.ownsRow (g+1) 3 1 rv row.length (nvals row)/\Bk wr g 3 (ivals o)/\Bf T out o row n p i 0/\Below K.heap.size K wr) (fun _ iv _=>T.length-(intOf iv).toNat)
      case atStart=>exact⟨0,[p],_,by omega,rfl,a9.out,bu.out,C.out,a5⟩
      case round =>
       clear a9 bu C a5 c7;obtain⟨i,row,o,hi,rfl,m,q,j,a⟩:=hrel;obtain⟨w4,co⟩:∃w4,w4=wr:=⟨_,rfl⟩;subst co;obtain⟨A4,d0,rfl,cj⟩:=zaeq m;have br:=j.few;by_cases a1:i<row.length
       ·obtain⟨g4,rfl⟩:=Zju m (by omega);have s:row[i]? = some row[i]:=zG a1;generalize row[i]=x at *;have c0:(i:Int)<(row.length:Int):=by omega
        obtain⟨b,C,r⟩:=zz3 q j m;clear q j m;go_wp2_with fail;go_loopw[7,45] (fun rv kv wr=>∃(k:Nat) (row:List Nat) (o:List Int),k<=3/\kv=.int .i64 (k:Int)/\row[i]? = some x/\wr.ownsRow (g+1) 3 1 rv row.length (nvals row)/\Bk wr g 3 (ivals o)/\Bf T out o row n p i k/\Below K.heap.size K wr) (fun _ kv _=>3-(intOf kv).toNat)
        case atStart=>exact⟨0,row,o,by omega,rfl,s,r.out,b.out,C.out,a⟩
        case round =>
         clear r b C a s c0 a1 hi cj br;obtain⟨k,row,o,hk,rfl,s,m,q,j,a⟩:=hrel;obtain⟨w5,cq⟩:∃w5,w5=wr:=⟨_,rfl⟩;subst cq;have a1:=(zS.1 s).1;obtain⟨A5,d1,rfl,dc⟩:=zaeq m;obtain⟨g5,rfl⟩:=Zju m (by omega);obtain⟨cx,-,-⟩:=Zct m rfl a1;rw[(zS.1 s).2]at cx;have cu:=j.few;have c0:(i:Int)<(row.length:Int):=by omega
         have cr:=List.mem_of_getElem? s;have dp:=j.lt x cr;have bj:=a.size;by_cases c1:k<3
         ·have dj:(k:Int)<3:=by omega
          have O:=bn.out w5 (3*x+k) a (by omega);rw[show((3*x+k:Nat):Int)=3*(x:Int)+(k:Int) by omega]at O;have E:=fun y (hy:y<T.length)=>bo.out o row i k y j hy
          cases I:opp T (3*x+k)with
          | none =>
           rw[I]at O;have F:=j.skip s (fun y hy=>by
            unfold nb at hy;rw[I]at hy;cases hy)
           obtain⟨r,b,C,J,X,V,b2,aa⟩:=zz8 m q j F s O I E;clear m q j F s O I E;go_wp2_with fail;refine V.out.mono ?_;rintro e w6 ⟨rfl,A⟩;have t:=zafq r.out A zl;have R:=b.out.below A b.out.lt;have M:=a.trans (A.mono bj);clear A;obtain⟨L,aq⟩:=zz2 t R;clear t R;go_wp2_with fail;exact⟨⟨k+1,row,o,by omega,by simp,X.out,L.out,aq.out,J.out,M⟩,by simp[intOf];omega⟩
          | some d =>
           rw[I]at O;have G:nb T x k=some (d/3):=by unfold nb;rw[I];rfl
           have c6:=(hs.nb_rng c1 G).2;obtain⟨y,dq,c5⟩:∃y:Nat,(d:Int)/3=(y:Int)/\d/3=y:=⟨d/3,by omega,rfl⟩;rw[c5]at G c6;clear c5;obtain⟨f,hf,dg,dh⟩:=E y c6;have da:(y:Int)<(T.length:Int):=by omega
           by_cases am:f<0
           ·obtain rfl:f = -1:=by omega
            have F:=j.meet hs c1 s G hf;have bi:(row++[y])[i]? = some x:=by rw[List.getElem?_append_left a1];exact s
            clear am;obtain⟨r,b,C,J,X,bp,V,b2,aa,bm⟩:=zz10 m q j F s bi O I E G;clear m q j F s bi O I E G;go_wp2_with fail;refine V.out.mono ?_;rintro e w6 ⟨rfl,A⟩;have t:=zafq r.out A zl;have R:=b.out.below A b.out.lt;have M:=a.trans (A.mono bj);clear A;have cy:=(R.cell y).trans (Za3 hf);have fy:=R.frozen y;have b9:=R.set y (.int .i64 (n:Int));rw[Zgu]at b9;have ag:=Zvp t (Nat.lt_succ_self g) y (u:=.int .i64 (n:Int));have ad:=M.setCell (p:=⟨g,y,none⟩) av (.int .i64 (n:Int));have d8:=R.lt;have c2:w6.heap.size<=((w6.setCell ⟨g,y,none⟩ (.int .i64 (n:Int))).alloc (.cells #[.int .i64 (y:Int)] 3)).heap.size:=by simp
            have bx:g+1<=((w6.setCell ⟨g,y,none⟩ (.int .i64 (n:Int))).alloc (.cells #[.int .i64 (y:Int)] 3)).heap.size:=by omega
            have bb:Bk ((w6.setCell ⟨g,y,none⟩ (.int .i64 (n:Int))).alloc (.cells #[.int .i64 (y:Int)] 3)) w6.heap.size 3 [.int .i64 (y:Int)]:=Bk.new' _ _ (by simp);obtain⟨L,aq,c8,ay,a0,ch,cv,ca,bk⟩:=zz9 t R b9 ag ad hf c2 bx bb;clear t R b9 ag ad hf c2 bx bb;go_wp2_with(at_builtin;refine zajq _ rfl (.tmp 72) (.tmp 75) 28 rfl (g+1) Zap Tryz.underlying28 rfl (by decide) _ row.length (nvals row) rfl (ay.out.alloc _) w6.heap.size [.int .i64 (y:Int)] rfl bk.out rfl (by simp[Value.oneCell']) (by omega) (by omega) ca.out ?_;intro v7 w7 a7 bw _ _;obtain⟨g9,cd,rfl⟩:=ownsRow_succ a7;have b4:=zz a7;clear a7);have b7:=(c8.out.alloc (.cells #[.int .i64 (y:Int)] 3)).below bw (Nat.lt_succ_self g);have bq:=(a0.out.alloc a0.out.size (.cells #[.int .i64 (y:Int)] 3)).trans (bw.mono (by omega));have bt:w7.ownsRow (g+1) 3 1 (.slice (some ⟨g9,0,none⟩) (row.length+1) cd) (row++[y]).length (nvals (row++[y])):=by
             rw[zA,List.length_singleton];unfold nvals;rw[List.map_append];exact b4.out
            exact⟨⟨k+1,row++[y],_,by omega,by simp,bp.out,bt,b7,J.out,bq⟩,by simp[intOf];omega⟩
           ·have F:=j.skip s (fun z hz=>by
             rw[G]at hz;obtain rfl:=zO hz;rw[hf];intro e;have:=zO e;omega)
            have df:0<=f:=by omega
            obtain⟨r,b,C,J,X,V,b2,aa,bm⟩:=zz9 m q j F s O I E G;clear m q j F s O I E G;go_wp2_with fail;refine V.out.mono ?_;rintro e w6 ⟨rfl,A⟩;have t:=zafq r.out A zl;have R:=b.out.below A b.out.lt;have M:=a.trans (A.mono bj);clear A;have cy:=(R.cell y).trans (Za3 hf);obtain⟨L,aq,ch⟩:=zz3 t R hf;clear t R hf;go_wp2_with fail;exact⟨⟨k+1,row,o,by omega,by simp,X.out,L.out,aq.out,J.out,M⟩,by simp[intOf];omega⟩
         ·obtain rfl:k=3:=by omega
          have F:=j.row a1;obtain⟨r,b,C,J,X⟩:=zz5 m q j F s;clear m q j F s;go_wp2_with fail;exact⟨⟨i+1,row,o,by omega,by simp,r.out,b.out,J.out,a⟩,by simp[intOf];omega⟩
       ·obtain rfl:i=row.length:=by omega
        have Y:=bl.out o row j;obtain⟨b,C,r,a4⟩:=zz4 q j m Y;clear q j m Y;go_wp2_with fail;exact⟨⟨n+1,p+1,o,by omega,by simp,by simp,a4.out,b.out,a⟩,by simp[intOf];omega⟩
     ·have Y:=v.skip aw (by rw[hd];intro e;have:=zO e;omega);have dl:0<=d:=by omega
      obtain⟨b,Q,a4,cg⟩:=zz4 q v Y hd;clear q v Y hd;go_wp2_with fail;exact⟨⟨n,p+1,out,by omega,by simp,rfl,a4.out,b.out,a⟩,by simp[intOf];omega⟩
    ·obtain rfl:p=T.length:=by omega
     obtain⟨b,Q⟩:=zz2 q v;clear q v;go_wp2_with fail;go_ret;exact⟨⟨g,out,n,rfl,b.out,Q.out,av⟩,a⟩
end Go.Proofs.YtpbdcppaiafbgaaGreat
namespace Go.Mesh
section
variable {N : Int} {T : List T3}
theorem Pt.uniq{out out':List Int}{C C':Nat}(hs:Surf N T)(h:Pt T out C T.length)(h':Pt T out' C' T.length):C=C':=by
 have d:=h.np;have e:=h'.np;rcases Nat.lt_trichotomy C C' with a|a|a
 ·obtain⟨i,b,_,c⟩:=h.full (hs.sd_lt (i:=C) (by omega));exact absurd c (h'.apart i C b a)
 ·exact a
 ·obtain⟨i,b,_,c⟩:=h'.full (hs.sd_lt (i:=C') (by omega));exact absurd c (h.apart i C' b a)
end
end Go.Mesh
namespace Go.Proofs.YtpbdcppaiafbgaaGreat
open Go Go.RowKit Go.Words Go.Mesh
theorem Zdv{w:World}{B:Nat}{tv:Value}{N:Int}{T:List T3}(h:Tab w B tv N T)(hs:Surf N T) :
  Calls Tryz.prog 51 #[tv] w fun e w'=>(∃(out:List Int) (C:Nat),e=.returned (.int .i64 (C:Int))/\Pt T out C T.length)/\Below w.heap.size w w':=by
 have j:=Zpi h hs;have F:=hs.tmax;have l:=fun i=>hs.sd_lt (i:=i)
 obtain⟨O,m,s,n⟩:=zz4 h j hs l;clear h j hs l;go_enter Tryz.func51,Tryz.ntmps51;go_wp2_with fail;refine m.out.mono ?_;rintro e G ⟨⟨g,out,C,rfl,p,c,R⟩,y⟩;have Q:=c.np;obtain⟨r,a⟩:=zz2 p c;clear p c;go_wp2_with fail;go_loopw[3,9] (fun mv iv wr=>∃(k:Nat) (M:Int),k<=T.length/\iv=.int .i64 (k:Int)/\mv=.int .i64 M/\0<=M/\M<=C/\(∀x v,x<k->out[x]? = some v->v+1<=M)/\wr=G) (fun _ iv _=>T.length-(intOf iv).toNat)
 case atStart=>exact⟨0,0,by omega,rfl,rfl,by omega,by omega,fun x v hx=>by omega,rfl⟩
 case round =>
  obtain⟨k,M,p,rfl,rfl,H,I,b,rfl⟩:=hrel;by_cases z:k<T.length
  ·obtain⟨d,o,J,K⟩:=a.out.val z;have P:=(r.out.cell k).trans (Za3 o);have L:(k:Int)<(T.length:Int):=by omega
   obtain⟨f,q⟩:=zz2 b o;clear b o;go_wp2_with fail;refine⟨⟨k+1,max M (d+1),by omega,by simp,rfl,by omega,by omega,fun x v hx hv=>?_,by trivial⟩,by simp[intOf];omega⟩;by_cases A:x=k
   ·rw[A,q.out]at hv;have:=zO hv;omega
   ·have:=f.out x v (by omega) hv;omega
  ·obtain rfl:k=T.length:=by omega
   have u:M=(C:Int):=by
    rcases Nat.eq_zero_or_pos C with D|D
    ·omega
    ·have t:=n.out (C-1) (by omega);have E:=a.out.at_ s.out (i:=C-1) (by omega) t (Con.refl _);have:=b _ _ t E;omega
   subst u;have f:=zz b;clear b;go_wp2_with fail;go_ret;exact⟨⟨out,C,rfl,a.out⟩,y⟩
