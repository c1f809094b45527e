/- Walks: ref09's Edge, Has, twice. Walks: ref09's index. -/
import Derived.Test.YtpbdcppaiafbgaaGreatVB
import Derived.Maps.OwnIn
set_option maxRecDepth 100000
set_option maxHeartbeats 8000000
namespace Go.Mesh
def edB(t:T3)(a b:Int):Bool:=(t.1==a&&t.2.1==b)||(t.2.1==a&&t.2.2==b)||(t.2.2==a&&t.1==b)
def haB(t:T3)(v:Int):Bool:=t.1==v || t.2.1==v || t.2.2==v
def twB(t u:T3):Bool:=edB u t.1 t.2.1 || edB u t.2.1 t.2.2 || edB u t.2.2 t.1
end Go.Mesh
namespace Go.Proofs.YtpbdcppaiafbgaaGreat
open Go Go.RowKit Go.Words Go.Mesh
theorem zaxq{a b:Bool}(h:a=b):Ending.returned (.bool a)=Ending.returned (.bool b):=by rw[h]
abbrev triV(t:T3):Value:=.agg #[.int .i64 t.1,.int .i64 t.2.1,.int .i64 t.2.2]
theorem edge9_calls(t:T3)(a b:Int)(w:World) :
  Calls Tryz.prog 223 #[triV t,.int .i64 a,.int .i64 b] w fun e w'=>e=.returned (.bool (edB t a b))/\Below w.heap.size w w':=by
 obtain⟨x,y,z⟩:=t;unfold edB;simp only[triV];go_enter Tryz.func223,Tryz.ntmps223;go_wp2_with fail;all_goals
  go_ret;refine⟨zaxq ?_,(zr w.heap.size w).alloc zl _⟩;simp[*]<;>omega
theorem Zm0(t:T3)(v:Int)(w:World) :
  Calls Tryz.prog 172 #[triV t,.int .i64 v] w fun e w'=>e=.returned (.bool (haB t v))/\Below w.heap.size w w':=by
 obtain⟨x,y,z⟩:=t;unfold haB;simp only[triV];go_enter Tryz.func172,Tryz.ntmps172;go_wp2_with fail;all_goals
  go_ret;refine⟨zaxq ?_,(zr w.heap.size w).alloc zl _⟩;simp[*]
theorem twice9_calls(t u:T3)(w:World) :
  Calls Tryz.prog 202 #[triV t,triV u] w fun e w'=>e=.returned (.bool (twB t u))/\Below w.heap.size w w':=by
 have f:=fun a b wz=>edge9_calls u a b wz
 have l:=f t.1 t.2.1;have m:=f t.2.1 t.2.2;have o:=f t.2.2 t.1;clear f;unfold twB;obtain⟨x,y,z⟩:=t;simp only[triV]at l m o ⊢;generalize edB u x y=K at *;generalize edB u y z=L at *;generalize edB u z x=V at *;obtain⟨p,q,r⟩:=u;simp only[]at l m o ⊢;have G:=((zr w.heap.size w).alloc zl (.cells #[.int .i64 x,.int .i64 y,.int .i64 z] 57)).alloc (by simp) (.cells #[.int .i64 p,.int .i64 q,.int .i64 r] 57);have d:=Bk.new w 57 [.int .i64 x,.int .i64 y,.int .i64 z];have k:=Bk.new' (n:=w.heap.size+1) (w:=w.alloc (.cells #[.int .i64 x,.int .i64 y,.int .i64 z] 57)) 57 [.int .i64 p,.int .i64 q,.int .i64 r] (by simp);have d:=d.alloc (.cells #[.int .i64 p,.int .i64 q,.int .i64 r] 57);have s:∀wz,Below (w.heap.size+2) ((w.alloc (.cells #[.int .i64 x,.int .i64 y,.int .i64 z] 57)).alloc (.cells #[.int .i64 p,.int .i64 q,.int .i64 r] 57)) wz ->
   wz.cell? ⟨w.heap.size,0,none⟩=some (.int .i64 x)/\wz.cell? ⟨w.heap.size,1,none⟩=some (.int .i64 y)/\wz.cell? ⟨w.heap.size,2,none⟩=some (.int .i64 z)/\wz.cell? ⟨w.heap.size+1,0,none⟩=some (.int .i64 p)/\wz.cell? ⟨w.heap.size+1,1,none⟩=some (.int .i64 q)/\wz.cell? ⟨w.heap.size+1,2,none⟩=some (.int .i64 r):=fun wz hz=>by
  have A:=d.below hz (by omega);have B:=k.below hz (by omega);exact⟨A.cell 0,A.cell 1,A.cell 2,B.cell 0,B.cell 1,B.cell 2⟩
 obtain⟨D,E,F,I,J,g⟩:=zz6 l m o d k s;clear l m o d k s;go_enter Tryz.func202,Tryz.ntmps202;go_wp2_with fail;refine(D.out _).mono ?_;rintro e S ⟨rfl,c⟩;rw[World.size_alloc,World.size_alloc]at c;obtain⟨M,N,O,P,Q,R⟩:=g.out S c;have v:=c.size;simp only[World.size_alloc]at v;have i:=G.trans (c.mono (by omega));cases K with
 | true =>
  go_wp2_with fail;go_ret;exact⟨zaxq (by simp),i⟩
 | false =>
  go_wp2_with fail;refine(E.out _).mono ?_;rintro e T ⟨rfl,h⟩;have C:=c.trans (h.mono v);obtain⟨W,X,Y,Z,d4,d5⟩:=g.out T C;have U:=h.size;have j:=i.trans (h.mono i.size);clear M N O P Q R;cases L with
  | true =>
   go_wp2_with fail;go_ret;exact⟨zaxq (by simp),j⟩
  | false =>
   go_wp2_with fail;refine(F.out _).mono ?_;rintro e w3 ⟨rfl,H⟩;go_wp2_with fail;go_ret;exact⟨zaxq (by simp),j.trans (H.mono j.size)⟩
end Go.Proofs.YtpbdcppaiafbgaaGreat
namespace Go.Mesh
def Idx(N:Int)(T:List T3):Prop:=0<=N/\N<=4096/\∀c,c<3*T.length->0<=vt T c/\vt T c<N
def Zos(p:T3->T3->Bool)(T:List T3)(n:Nat):Prop:=∀b a,b<n->a<b->p (Zac T a) (Zac T b)=false
def vsB(t u:T3):Bool:=haB u t.1&&haB u t.2.1&&haB u t.2.2
theorem Zd4{T:List T3}{i:Nat}(h:i<T.length):T[i]=Zac T i:=by
 unfold Zac;rw[zD,zG h];rfl
end Go.Mesh
namespace Go.Proofs.YtpbdcppaiafbgaaGreat
open Go Go.RowKit Go.Words Go.Mesh
theorem Zl0:(Tryz.prog.info? 200).map (fun i=>(i.zero,i.size,i.bytes))=some (some (.agg #[.int .i64 0,.int .i64 0,.int .i64 0]),3,24):=by kernel_rfl
def Wz(w:World)(base:Nat)(v:Value)(good:Prop):Prop:=∃(n:Nat) (xs:List Value),w.ownsRow base 200 3 v n xs/\(n=0↔good)/\n<=100000
theorem index9_calls(sv:Value)(N:Int)(T:List T3)(w:World){B:Nat}(hB0:B<=w.heap.size)(hT:Sl 3 RTri w B sv T)(hfew:T.length<=8192) :
  Calls Tryz.prog 170 #[.agg #[.int .i64 N,sv]] w fun e w'=>(∃v',e=.returned v'/\Wz w' w.heap.size v' (Idx N T))/\Below w.heap.size w w':=by
 obtain⟨A,t,rfl,av⟩:=hT.form;have C:=Bk.new w 24 [.int .i64 N,.slice A T.length t];have M:=(zr w.heap.size w).alloc zl (.cells #[.int .i64 N,.slice A T.length t] 24);have L:=hT.below zaaq (M.mono hB0);have ai:B<=(w.alloc (.cells #[.int .i64 N,.slice A T.length t] 24)).heap.size:=by rw[World.size_alloc];omega
 have c0:=C.cell 0;have c1:=C.cell 1;simp only[List.getElem?_cons_zero,List.getElem?_cons_succ]at c0 c1;by_cases hp:0<=N/\N<=4096
 case neg =>
  have W:¬Idx N T:=fun r=>hp ⟨r.1,r.2.1⟩
  obtain⟨Z,a9,R⟩:=zz3 W hT L;clear W hT L;go_enter Tryz.func170,Tryz.ntmps170;go_wp2_with fail;all_goals try omega
  all_goals
   go_ret;refine⟨⟨_,rfl,1,[.int .i64 1,.int .i64 (-1),.int .i64 0],?_,⟨fun r=>(by cases r),fun r=>absurd r Z.out⟩,by omega⟩,M.alloc (by rw[World.size_alloc];omega) _⟩;have r:=World.ownsRow_lit (e:=200) (base:=w.heap.size) (size:=3) (w.alloc (.cells #[.int .i64 N,.slice A T.length t] 24)) #[.int .i64 1,.int .i64 (-1),.int .i64 0] 1 (by rw[World.size_alloc];omega) (by unfold maxLen;omega) rfl;rw[World.size_alloc]at r;exact r
 case pos =>
  obtain⟨p1,p2⟩:=hp;have a6:w.heap.size<(w.alloc (.cells #[.int .i64 N,.slice A T.length t] 24)).heap.size:=by rw[World.size_alloc];omega
  generalize ao:w.alloc (.cells #[.int .i64 N,.slice A T.length t] 24)=w0 at *;obtain⟨a9,R,aq⟩:=zz3 hT L C;clear hT L C;go_enter Tryz.func170,Tryz.ntmps170;go_wp2_with fail;clear ao;go_loopw[3,4] (fun l i wr=>∃(k n:Nat) (Y:List Value),k<=T.length/\i=.int .i64 k/\wr.ownsRow w0.heap.size 200 3 l n Y/\(n=0↔∀c,c<3*k->0<=Mesh.vt T c/\Mesh.vt T c<N)/\n<=k/\Below w0.heap.size w0 wr) (fun _ i _=>T.length-(intOf i).toNat)
  case atStart=>exact⟨0,0,[],by omega,rfl,zn _ _ _ _,⟨fun _ c hc=>by omega,fun _=>rfl⟩,by omega,zr _ _⟩
  case round =>
   obtain⟨k,n,Y,hk,rfl,y,q,b3,s⟩:=hrel;obtain⟨E,ap⟩:∃E,E=wr:=⟨_,rfl⟩;subst ap;have ac:E.cell? ⟨w.heap.size,0,none⟩=some (.int .i64 N):=(s.cell (p:=⟨w.heap.size,0,none⟩) a6).trans c0;have ae:E.cell? ⟨w.heap.size,1,none⟩=some (.slice A T.length t):=(s.cell (p:=⟨w.heap.size,1,none⟩) a6).trans c1;have an:=s.size;have V:=R.out.below zaaq (s.mono ai);have a4:w.heap.size<E.heap.size:=by omega
   by_cases aj:k<T.length
   ·obtain⟨b,o,rfl,hb,O⟩:=Zbw V aj;have ah:b<E.heap.size:=by omega
    obtain⟨K,F,ar,S⟩:=zz4 y q V O;clear y q V O;go_wp2_with fail;go_loopw[5,6] (fun bv jv wi=>∃(m:Nat) (G:Bool),m<=3/\jv=.int .i64 m/\bv=.bool G/\(G=false↔∀c,3*k<=c->c<3*k+m->0<=Mesh.vt T c/\Mesh.vt T c<N)/\Below E.heap.size E wi) (fun _ j _=>3-(intOf j).toNat)
    case atStart=>exact⟨0,false,by omega,rfl,rfl,⟨fun _ c _ hc=>by omega,fun _=>rfl⟩,zr _ _⟩
    case round =>
     obtain⟨m,G,hm,rfl,rfl,g,a⟩:=hrel;have az:wr.cell? ⟨w.heap.size,0,none⟩=some (.int .i64 N):=(a.cell (p:=⟨w.heap.size,0,none⟩) a4).trans ac;have b0:wr.cell? ⟨w.heap.size,1,none⟩=some (.slice (some ⟨b,o,none⟩) T.length t):=(a.cell (p:=⟨w.heap.size,1,none⟩) a4).trans ae;have b7:=a.size;have d:=zafq K.out a zl;by_cases ak:m<3
     ·have b1:=(a.cell (p:=⟨b,o+k*3+m,none⟩) ah).trans (S.out m ak);have P:∀b2:Bool,(b2=false↔G=false/\0<=Mesh.vt T (3*k+m)/\Mesh.vt T (3*k+m)<N)->(b2=false↔∀c,3*k<=c->c<3*k+(m+1)->0<=Mesh.vt T c/\Mesh.vt T c<N):=fun b2 hb2=>by
       rw[hb2,g];constructor
       ·rintro⟨v,h2⟩ c h3 h4;by_cases h5:c=3*k+m
        ·rw[h5];exact h2
        ·exact v c h3 (by omega)
       ·intro v;exact⟨fun c h3 h4=>v c h3 (by omega),v _ (by omega) (by omega)⟩
      generalize Mesh.vt T (3*k+m)=x at *;cases G with
      | true =>
       obtain⟨f,u,H⟩:=zz3 d P g;clear d P g;go_wp2_with fail;refine Canon.wp_region_text mixed (by kernel_rfl) ?_;go_wp2_with fail;refine Canon.chk (by rfl) ?_;go_wp2_with fail;exact⟨⟨m+1,true,by omega,by simp,rfl,u.out true (by simp),a.drew⟩,by simp[intOf];omega⟩
      | false =>
       obtain⟨f,u,H⟩:=zz3 d P g;clear d P g;by_cases hx:x<0
       ·go_wp2_with fail;refine Canon.wp_region_text mixed (by kernel_rfl) ?_;go_wp2_with fail;refine Canon.chk (by rfl) ?_;go_wp2_with fail;exact⟨⟨m+1,true,by omega,by simp,rfl,u.out true (by simp;omega),a.drew⟩,by simp[intOf];omega⟩
       ·by_cases a5:N<=x
        ·go_wp2_with fail;refine Canon.wp_region_text mixed (by kernel_rfl) ?_;go_wp2_with fail;refine Canon.chk (by rfl) ?_;go_wp2_with fail;exact⟨⟨m+1,true,by omega,by simp,rfl,u.out true (by simp;omega),a.drew⟩,by simp[intOf];omega⟩
        ·have b4:0<=x:=by omega
         have b5:x<N:=by omega
         have b6:decide (N<=x)=false:=zN a5;clear hx a5;go_wp2_with fail;refine Canon.wp_region_text mixed (by kernel_rfl) ?_;go_wp2_with fail;all_goals try omega
         all_goals
          refine Canon.chk (by rfl) ?_;go_wp2_with fail;exact⟨⟨m+1,false,by omega,by simp,rfl,u.out false (by simp;omega),a.drew⟩,by simp[intOf];omega⟩
     ·obtain rfl:m=3:=by omega
      have z:G=false->(n=0↔∀c,c<3*(k+1)->0<=Mesh.vt T c/\Mesh.vt T c<N):=fun h=>by
       rw[F.out];constructor
       ·intro v c hc;by_cases h2:c<3*k
        ·exact v c h2
        ·exact g.1 h c (by omega) (by omega)
       ·exact fun v c hc=>v c (by omega)
      have D:G=true->(n+1=0↔∀c,c<3*(k+1)->0<=Mesh.vt T c/\Mesh.vt T c<N):=fun h=>by
       constructor
       ·intro v;omega
       ·intro v;have:=g.2 fun c h3 h4=>v c (by omega)
        rw[h]at this;cases this
      have a3:=s.trans (a.mono an);cases G with
      | true =>
       obtain⟨f,I,J,H⟩:=zz4 d z D g;clear d z D g;go_wp2_with(at_builtin;refine zajq _ rfl (.tmp 58) (.tmp 61) 183 rfl w0.heap.size Zl0 Tryz.underlying183 rfl (by decide) _ n Y rfl (f.out.alloc _) wr.heap.size [.int .i64 1,.int .i64 k,.int .i64 0] rfl (Bk.new _ _ _) rfl (by simp[Value.oneCell']) (by omega) (by omega) (by simp;omega) ?_;intro v1 w5 Q ag _ _;have U:=zz Q;clear Q);exact⟨⟨k+1,n+1,_,by omega,by simp,U.out,J.out rfl,by omega,(a3.alloc (by omega) _).trans ag⟩,by simp[intOf];omega⟩
      | false =>
       obtain⟨f,I,J,H⟩:=zz4 d z D g;clear d z D g;go_wp2_with fail;exact⟨⟨k+1,n,Y,by omega,by simp,f.out,I.out rfl,by omega,a3⟩,by simp[intOf];omega⟩
   ·obtain rfl:k=T.length:=by omega
    have X:Wz E w.heap.size _ (Idx N T):=⟨n,Y,zalq y (by omega),q.trans ⟨fun r=>⟨p1,p2,r⟩,fun r=>r.2.2⟩,by omega⟩;obtain⟨K,F,a0⟩:=zz3 y q X;clear y q X;go_wp2_with fail;go_ret;exact⟨⟨_,rfl,a0.out⟩,M.trans (s.mono M.size)⟩
theorem pairs9_calls(sv:Value)(N:Int)(T:List T3)(kind:Int)(p:T3->T3->Bool)(hkind:(kind=3/\p=twB)\/(kind=4/\p=vsB))(w:World){B:Nat}(hB0:B<=w.heap.size)(hT:Sl 3 RTri w B sv T)(hfew:T.length<=200) :
  Calls Tryz.prog 171 #[.agg #[.int .i64 N,sv],.int .i64 kind] w fun e w'=>(∃v',e=.returned v'/\Wz w' w.heap.size v' (Zos p T T.length))/\Below w.heap.size w w':=by
 obtain⟨A,af,rfl,cp⟩:=hT.form;have b6:=Bk.new w 24 [.int .i64 N,.slice A T.length af];have be:=(zr w.heap.size w).alloc zl (.cells #[.int .i64 N,.slice A T.length af] 24);have br:=hT.below zaaq (be.mono hB0);have ce:B<=(w.alloc (.cells #[.int .i64 N,.slice A T.length af] 24)).heap.size:=by rw[World.size_alloc];omega
 have c1:=b6.cell 1;simp only[List.getElem?_cons_zero,List.getElem?_cons_succ]at c1;have bt:w.heap.size<(w.alloc (.cells #[.int .i64 N,.slice A T.length af] 24)).heap.size:=by rw[World.size_alloc];omega
 generalize ch:w.alloc (.cells #[.int .i64 N,.slice A T.length af] 24)=w0 at *;obtain⟨cr,bv,cm,au⟩:=zz4 hT br b6 hkind;clear hT br b6 hkind;go_enter Tryz.func171,Tryz.ntmps171;go_wp2_with fail;clear ch;go_loopw[5,6] (fun l i wr=>∃(k n:Nat) (xs:List Value),k<=T.length/\i=.int .i64 k/\wr.ownsRow w0.heap.size 200 3 l n xs/\(n=0↔Zos p T k)/\n<=k*200/\Below w0.heap.size w0 wr) (fun _ i _=>T.length-(intOf i).toNat)
 case atStart=>exact⟨0,0,[],by omega,rfl,zn _ _ _ _,⟨fun _ b a hb=>by omega,fun _=>rfl⟩,by omega,zr _ _⟩
 case round =>
  obtain⟨k,n,xs,hk,rfl,am,a4,cf,ai⟩:=hrel;obtain⟨w1,ci⟩:∃w1,w1=wr:=⟨_,rfl⟩;subst ci;have cc:w1.cell? ⟨w.heap.size,1,none⟩=some (.slice A T.length af):=(ai.cell (p:=⟨w.heap.size,1,none⟩) bt).trans c1;have cg:=ai.size;by_cases bs:k<T.length
  ·obtain⟨b7,ar⟩:=zz2 am a4;clear am a4;go_wp2_with fail;go_loopw[5,7] (fun l i wr=>∃(m n:Nat) (xs:List Value),m<=k/\i=.int .i64 m/\wr.ownsRow w0.heap.size 200 3 l n xs/\(n=0↔Zos p T k/\∀a,a<m->p (Zac T a) (Zac T k)=false)/\n<=k*200+m/\Below w0.heap.size w0 wr) (fun _ i _=>k-(intOf i).toNat)
   case atStart=>exact⟨0,n,xs,by omega,rfl,b7.out,ar.out.trans ⟨fun h=>⟨h,fun a ha=>by omega⟩,fun h=>h.1⟩,by omega,ai⟩
   case round =>
    clear cf cc cg ai;obtain⟨m,D,Q,hm,rfl,ad,S,cq,U⟩:=hrel;obtain⟨s,cj⟩:∃s,s=wr:=⟨_,rfl⟩;subst cj;have b8:s.cell? ⟨w.heap.size,1,none⟩=some (.slice A T.length af):=(U.cell (p:=⟨w.heap.size,1,none⟩) bt).trans c1;have bh:=U.size;have bb:w.heap.size<s.heap.size:=by omega
    have b9:=bv.out.below zaaq (U.mono ce);by_cases ct:m<k
    ·obtain⟨b,o,cd,hb,a1,a2,a3⟩:=b9.tri_at (k:=m) (by omega);obtain⟨b',o',ag,cs,b1,b2,b3⟩:=b9.tri_at bs;subst cd;injection ag with ag;injection ag with ag hAo;subst ag;subst hAo;have ba:b<s.heap.size:=by omega
     have c4:m<T.length:=by omega
     rw[Zd4 c4]at a1 a2 a3;rw[Zd4 bs]at b1 b2 b3;have bc:∀n3:Nat,(n3=0↔D=0/\p (Zac T m) (Zac T k)=false)->(n3=0↔Zos p T k/\∀a,a<m+1->p (Zac T a) (Zac T k)=false):=fun n3 h3=>by
      rw[h3,S];constructor
      ·rintro⟨⟨h4,h5⟩,h6⟩;refine⟨h4,fun a ha=>?_⟩;by_cases h7:a=m
       ·rw[h7];exact h6
       ·exact h5 a (by omega)
      ·rintro⟨h4,h5⟩;exact⟨⟨h4,fun a ha=>h5 a (by omega)⟩,h5 m (by omega)⟩
     generalize Zac T m=x at *;generalize Zac T k=y at *;obtain⟨I,J,K⟩:=x;obtain⟨u,z,C⟩:=y;simp only[]at a1 a2 a3 b1 b2 b3;have bu:∀X:Obj,Canon.KeepU (fun b=>b<s.heap.size) s.drew (s.drew.alloc X):=fun X=>zacq (B:=s.heap.size) ((zr s.heap.size s.drew).alloc zl X)
     have ap:∀X Y:Obj,Canon.KeepU (fun b=>b<s.heap.size) s.drew ((s.drew.alloc X).alloc Y):=fun X Y=>zacq (B:=s.heap.size) (((zr s.heap.size s.drew).alloc zl X).alloc (by simp) Y)
     obtain⟨W,ao,cn,t⟩:=zz4 ad S b9 bc;clear ad S b9 bc;go_wp2_with fail;refine Canon.wp_region_tree [1,4,6,9] (fun b=>b<s.heap.size) (.seg [0,1,2,3,4,5,6,7,8,9] (.alt 10 (.alt 11 (.alt 12 (.alt 13 .fin .no) .no) .no) (.alt 11 (.alt 10 (.alt 12 (.alt 13 .fin .no) .no) .no) .no))) mixed (by kernel_rfl) ?_;refine Canon.tr_seg ?_;simp only[zm,zg];go_wp2_with fail;refine Canon.tr_to (Canon.tr_alt ?_ (Canon.tr_alt ?_ Canon.tr_no))
     ·simp only[zg];go_wp2_with fail;refine Canon.tr_end (bu _) (Canon.tr_one ?_);simp only[zg];go_wp2_with fail;refine Canon.tr_end (ap _ _) (Canon.tr_one ?_);simp only[zg];go_wp2_with fail;refine Canon.tr_end (ap _ _) (Canon.tr_one ?_);simp only[zg];go_wp2_with fail;refine Canon.tr_end (ap _ _) (Canon.tr_fin (by rfl) (zF ⟨.inl ⟨_,rfl,bb,by rw[zw,b8];rfl⟩,zF ⟨.inl ⟨_,rfl,ba,by rw[zw,a1];rfl⟩,zF ⟨.inl ⟨_,rfl,bb,by rw[zw,b8];rfl⟩,zF ⟨.inl ⟨_,rfl,ba,by rw[zw,b1];rfl⟩,fun _ h=>by cases h⟩⟩⟩⟩) ?_);have f:=((U.alloc bh (.cells #[.int .i64 I,.int .i64 J,.int .i64 K] 57)).alloc (by simp;omega) (.cells #[.int .i64 u,.int .i64 z,.int .i64 C] 57)).drew;have Z:=((Bk.new s 57 [.int .i64 I,.int .i64 J,.int .i64 K]).alloc (.cells #[.int .i64 u,.int .i64 z,.int .i64 C] 57)).drew;have a0:=(Bk.new' (n:=s.heap.size+1) (w:=s.alloc (.cells #[.int .i64 I,.int .i64 J,.int .i64 K] 57)) 57 [.int .i64 u,.int .i64 z,.int .i64 C] (by simp)).drew;have a5:=zafq W.out (((zr s.heap.size s).alloc zl (.cells #[.int .i64 I,.int .i64 J,.int .i64 K] 57)).alloc (by simp) (.cells #[.int .i64 u,.int .i64 z,.int .i64 C] 57)).drew zl;have c5:s.heap.size+2<=((s.alloc (.cells #[.int .i64 I,.int .i64 J,.int .i64 K] 57)).alloc (.cells #[.int .i64 u,.int .i64 z,.int .i64 C] 57)).drew.heap.size:=by simp
      generalize bi:((s.alloc (.cells #[.int .i64 I,.int .i64 J,.int .i64 K] 57)).alloc (.cells #[.int .i64 u,.int .i64 z,.int .i64 C] 57)).drew=wp at *;have av:∀H,Below wp.heap.size wp H->H.cell? ⟨s.heap.size,0,none⟩=some (.int .i64 I)/\H.cell? ⟨s.heap.size,1,none⟩=some (.int .i64 J)/\H.cell? ⟨s.heap.size,2,none⟩=some (.int .i64 K)/\H.cell? ⟨(s.heap.size+1),0,none⟩=some (.int .i64 u)/\H.cell? ⟨(s.heap.size+1),1,none⟩=some (.int .i64 z)/\H.cell? ⟨(s.heap.size+1),2,none⟩=some (.int .i64 C):=fun H hz=>by
       have g1:=Z.below hz Z.lt;have g2:=a0.below hz a0.lt;exact⟨g1.cell 0,g1.cell 1,g1.cell 2,g2.cell 0,g2.cell 1,g2.cell 2⟩
      have ck:=f.size;clear bi;obtain⟨bw,bx,E,R⟩:=zz4 Z a0 a5 av;clear Z a0 a5 av;rcases au.out with⟨rfl,rfl⟩|⟨rfl,rfl⟩
      ·obtain⟨d0,d1,d2,d3,d4,d5⟩:=R.out wp (zr _ _);have ax:=twice9_calls (I,J,K) (u,z,C);have b0:=zz ax;clear ax;go_wp2_with fail;refine(b0.out _).mono ?_;rintro e H ⟨rfl,g⟩;have c:=zafq E.out g zl;have bj:=g.size;cases G:twB (I,J,K) (u,z,C)with
       | false =>
        have q:=t.out D (by simp[G]);obtain⟨d,r,ae⟩:=zz3 c q G;clear c q G;go_wp2_with fail;exact⟨⟨m+1,D,Q,by omega,by simp,d.out,r.out,by omega,f.trans (g.mono f.size)⟩,by simp[intOf];omega⟩
       | true =>
        have q:=t.out (D+1) (by simp[G]);obtain⟨d,r,ae⟩:=zz3 c q G;clear c q G;go_wp2_with(at_builtin;refine zajq _ rfl (.tmp 61) (.tmp 66) 183 rfl w0.heap.size Zl0 Tryz.underlying183 rfl (by decide) _ D Q rfl (d.out.alloc _) H.heap.size [.int .i64 3,.int .i64 m,.int .i64 k] rfl (Bk.new _ _ _) rfl (by simp[Value.oneCell']) (by omega) (by omega) (by simp;omega) ?_;intro v1 w5 F ah _ _;have L:=zz F;clear F);exact⟨⟨m+1,D+1,_,by omega,by simp,L.out,r.out,by omega,((f.trans (g.mono f.size)).alloc (by omega) _).trans ah⟩,by simp[intOf];omega⟩
      ·have j:vsB (I,J,K) (u,z,C)=(haB (u,z,C) I&&haB (u,z,C) J&&haB (u,z,C) K):=rfl;have aw:=fun v=>Zm0 (u,z,C) v
       obtain⟨d0,d1,d2,d3,d4,d5⟩:=R.out wp (zr _ _);have V:=zz aw;clear aw;go_wp2_with fail;refine(V.out _ _).mono ?_;rintro e H ⟨rfl,g⟩;clear d0 d1 d2 d3 d4 d5;obtain⟨d0,d1,d2,d3,d4,d5⟩:=R.out H g;cases O:haB (u,z,C) I with
       | false =>
        rw[O]at j;have c:=zafq E.out g zl;have q:=t.out D (by simp[j]);obtain⟨d,r,ay,M⟩:=zz4 c q O j;clear c q O j;go_wp2_with fail;exact⟨⟨m+1,D,Q,by omega,by simp,d.out,r.out,by omega,f.trans (g.mono f.size)⟩,by simp[intOf];omega⟩
       | true =>
        rw[O]at j;obtain⟨ay,M⟩:=zz2 O j;clear O j;go_wp2_with fail;refine(V.out _ _).mono ?_;rintro e bk ⟨rfl,aj⟩;clear d0 d1 d2 d3 d4 d5;have g:=g.trans (aj.mono g.size);clear aj;obtain⟨d0,d1,d2,d3,d4,d5⟩:=R.out bk g;have j:=M.out;cases P:haB (u,z,C) J with
        | false =>
         rw[P]at j;have c:=zafq E.out g zl;have q:=t.out D (by simp[j]);obtain⟨d,r,az,M⟩:=zz4 c q P j;clear c q P j;go_wp2_with fail;exact⟨⟨m+1,D,Q,by omega,by simp,d.out,r.out,by omega,f.trans (g.mono f.size)⟩,by simp[intOf];omega⟩
        | true =>
         rw[P]at j;obtain⟨az,M⟩:=zz2 P j;clear P j;go_wp2_with fail;refine(V.out _ _).mono ?_;rintro e bl ⟨rfl,ak⟩;clear d0 d1 d2 d3 d4 d5;have g:=g.trans (ak.mono g.size);clear ak;have j:=M.out;have c:=zafq E.out g zl;have bj:=g.size;cases G:haB (u,z,C) K with
         | false =>
          have q:=t.out D (by simp[j,G]);obtain⟨d,r,ae⟩:=zz3 c q G;clear c q G;go_wp2_with fail;exact⟨⟨m+1,D,Q,by omega,by simp,d.out,r.out,by omega,f.trans (g.mono f.size)⟩,by simp[intOf];omega⟩
         | true =>
          have q:=t.out (D+1) (by simp[j,G]);obtain⟨d,r,ae⟩:=zz3 c q G;clear c q G;go_wp2_with(at_builtin;refine zajq _ rfl (.tmp 61) (.tmp 66) 183 rfl w0.heap.size Zl0 Tryz.underlying183 rfl (by decide) _ D Q rfl (d.out.alloc _) bl.heap.size [.int .i64 4,.int .i64 m,.int .i64 k] rfl (Bk.new _ _ _) rfl (by simp[Value.oneCell']) (by omega) (by omega) (by simp;omega) ?_;intro v1 w5 F ah _ _;have L:=zz F;clear F);exact⟨⟨m+1,D+1,_,by omega,by simp,L.out,r.out,by omega,((f.trans (g.mono f.size)).alloc (by omega) _).trans ah⟩,by simp[intOf];omega⟩
     ·simp only[zg];go_wp2_with fail;refine Canon.tr_end (bu _) (Canon.tr_one ?_);simp only[zg];go_wp2_with fail;refine Canon.tr_end (ap _ _) (Canon.tr_one ?_);simp only[zg];go_wp2_with fail;refine Canon.tr_end (ap _ _) (Canon.tr_one ?_);simp only[zg];go_wp2_with fail;refine Canon.tr_end (ap _ _) (Canon.tr_fin (by rfl) (zF ⟨.inl ⟨_,rfl,bb,by rw[zw,b8];rfl⟩,zF ⟨.inl ⟨_,rfl,ba,by rw[zw,a1];rfl⟩,zF ⟨.inl ⟨_,rfl,bb,by rw[zw,b8];rfl⟩,zF ⟨.inl ⟨_,rfl,ba,by rw[zw,b1];rfl⟩,fun _ h=>by cases h⟩⟩⟩⟩) ?_);have f:=((U.alloc bh (.cells #[.int .i64 u,.int .i64 z,.int .i64 C] 57)).alloc (by simp;omega) (.cells #[.int .i64 I,.int .i64 J,.int .i64 K] 57)).drew;have a0:=((Bk.new s 57 [.int .i64 u,.int .i64 z,.int .i64 C]).alloc (.cells #[.int .i64 I,.int .i64 J,.int .i64 K] 57)).drew;have Z:=(Bk.new' (n:=s.heap.size+1) (w:=s.alloc (.cells #[.int .i64 u,.int .i64 z,.int .i64 C] 57)) 57 [.int .i64 I,.int .i64 J,.int .i64 K] (by simp)).drew;have a5:=zafq W.out (((zr s.heap.size s).alloc zl (.cells #[.int .i64 u,.int .i64 z,.int .i64 C] 57)).alloc (by simp) (.cells #[.int .i64 I,.int .i64 J,.int .i64 K] 57)).drew zl;have c5:s.heap.size+2<=((s.alloc (.cells #[.int .i64 u,.int .i64 z,.int .i64 C] 57)).alloc (.cells #[.int .i64 I,.int .i64 J,.int .i64 K] 57)).drew.heap.size:=by simp
      generalize bi:((s.alloc (.cells #[.int .i64 u,.int .i64 z,.int .i64 C] 57)).alloc (.cells #[.int .i64 I,.int .i64 J,.int .i64 K] 57)).drew=wp at *;have av:∀H,Below wp.heap.size wp H->H.cell? ⟨(s.heap.size+1),0,none⟩=some (.int .i64 I)/\H.cell? ⟨(s.heap.size+1),1,none⟩=some (.int .i64 J)/\H.cell? ⟨(s.heap.size+1),2,none⟩=some (.int .i64 K)/\H.cell? ⟨s.heap.size,0,none⟩=some (.int .i64 u)/\H.cell? ⟨s.heap.size,1,none⟩=some (.int .i64 z)/\H.cell? ⟨s.heap.size,2,none⟩=some (.int .i64 C):=fun H hz=>by
       have g1:=Z.below hz Z.lt;have g2:=a0.below hz a0.lt;exact⟨g1.cell 0,g1.cell 1,g1.cell 2,g2.cell 0,g2.cell 1,g2.cell 2⟩
      have ck:=f.size;clear bi;obtain⟨bw,bx,E,R⟩:=zz4 Z a0 a5 av;clear Z a0 a5 av;rcases au.out with⟨rfl,rfl⟩|⟨rfl,rfl⟩
      ·obtain⟨d0,d1,d2,d3,d4,d5⟩:=R.out wp (zr _ _);have ax:=twice9_calls (I,J,K) (u,z,C);have b0:=zz ax;clear ax;go_wp2_with fail;refine(b0.out _).mono ?_;rintro e H ⟨rfl,g⟩;have c:=zafq E.out g zl;have bj:=g.size;cases G:twB (I,J,K) (u,z,C)with
       | false =>
        have q:=t.out D (by simp[G]);obtain⟨d,r,ae⟩:=zz3 c q G;clear c q G;go_wp2_with fail;exact⟨⟨m+1,D,Q,by omega,by simp,d.out,r.out,by omega,f.trans (g.mono f.size)⟩,by simp[intOf];omega⟩
       | true =>
        have q:=t.out (D+1) (by simp[G]);obtain⟨d,r,ae⟩:=zz3 c q G;clear c q G;go_wp2_with(at_builtin;refine zajq _ rfl (.tmp 61) (.tmp 66) 183 rfl w0.heap.size Zl0 Tryz.underlying183 rfl (by decide) _ D Q rfl (d.out.alloc _) H.heap.size [.int .i64 3,.int .i64 m,.int .i64 k] rfl (Bk.new _ _ _) rfl (by simp[Value.oneCell']) (by omega) (by omega) (by simp;omega) ?_;intro v1 w5 F ah _ _;have L:=zz F;clear F);exact⟨⟨m+1,D+1,_,by omega,by simp,L.out,r.out,by omega,((f.trans (g.mono f.size)).alloc (by omega) _).trans ah⟩,by simp[intOf];omega⟩
      ·have j:vsB (I,J,K) (u,z,C)=(haB (u,z,C) I&&haB (u,z,C) J&&haB (u,z,C) K):=rfl;have aw:=fun v=>Zm0 (u,z,C) v
       obtain⟨d0,d1,d2,d3,d4,d5⟩:=R.out wp (zr _ _);have V:=zz aw;clear aw;go_wp2_with fail;refine(V.out _ _).mono ?_;rintro e H ⟨rfl,g⟩;clear d0 d1 d2 d3 d4 d5;obtain⟨d0,d1,d2,d3,d4,d5⟩:=R.out H g;cases O:haB (u,z,C) I with
       | false =>
        rw[O]at j;have c:=zafq E.out g zl;have q:=t.out D (by simp[j]);obtain⟨d,r,ay,M⟩:=zz4 c q O j;clear c q O j;go_wp2_with fail;exact⟨⟨m+1,D,Q,by omega,by simp,d.out,r.out,by omega,f.trans (g.mono f.size)⟩,by simp[intOf];omega⟩
       | true =>
        rw[O]at j;obtain⟨ay,M⟩:=zz2 O j;clear O j;go_wp2_with fail;refine(V.out _ _).mono ?_;rintro e bk ⟨rfl,aj⟩;clear d0 d1 d2 d3 d4 d5;have g:=g.trans (aj.mono g.size);clear aj;obtain⟨d0,d1,d2,d3,d4,d5⟩:=R.out bk g;have j:=M.out;cases P:haB (u,z,C) J with
        | false =>
         rw[P]at j;have c:=zafq E.out g zl;have q:=t.out D (by simp[j]);obtain⟨d,r,az,M⟩:=zz4 c q P j;clear c q P j;go_wp2_with fail;exact⟨⟨m+1,D,Q,by omega,by simp,d.out,r.out,by omega,f.trans (g.mono f.size)⟩,by simp[intOf];omega⟩
        | true =>
         rw[P]at j;obtain⟨az,M⟩:=zz2 P j;clear P j;go_wp2_with fail;refine(V.out _ _).mono ?_;rintro e bl ⟨rfl,ak⟩;clear d0 d1 d2 d3 d4 d5;have g:=g.trans (ak.mono g.size);clear ak;have j:=M.out;have c:=zafq E.out g zl;have bj:=g.size;cases G:haB (u,z,C) K with
         | false =>
          have q:=t.out D (by simp[j,G]);obtain⟨d,r,ae⟩:=zz3 c q G;clear c q G;go_wp2_with fail;exact⟨⟨m+1,D,Q,by omega,by simp,d.out,r.out,by omega,f.trans (g.mono f.size)⟩,by simp[intOf];omega⟩
         | true =>
          have q:=t.out (D+1) (by simp[j,G]);obtain⟨d,r,ae⟩:=zz3 c q G;clear c q G;go_wp2_with(at_builtin;refine zajq _ rfl (.tmp 61) (.tmp 66) 183 rfl w0.heap.size Zl0 Tryz.underlying183 rfl (by decide) _ D Q rfl (d.out.alloc _) bl.heap.size [.int .i64 4,.int .i64 m,.int .i64 k] rfl (Bk.new _ _ _) rfl (by simp[Value.oneCell']) (by omega) (by omega) (by simp;omega) ?_;intro v1 w5 F ah _ _;have L:=zz F;clear F);exact⟨⟨m+1,D+1,_,by omega,by simp,L.out,r.out,by omega,((f.trans (g.mono f.size)).alloc (by omega) _).trans ah⟩,by simp[intOf];omega⟩
    ·obtain rfl:m=k:=by omega
     obtain⟨W,ao⟩:=zz2 ad S;clear ad S;go_wp2_with fail;refine⟨⟨m+1,D,Q,by omega,by simp,W.out,ao.out.trans ⟨fun h b a hb ha=>?_,fun h=>⟨fun b a hb=>h b a (by omega),fun a ha=>h m a (by omega) ha⟩⟩,by omega,U⟩,by simp[intOf];omega⟩;by_cases h7:b=m
     ·subst h7;exact h.2 a ha
     ·exact h.1 b a (by omega) ha
  ·obtain rfl:k=T.length:=by omega
   have bg:Wz w1 w.heap.size _ (Zos p T T.length):=⟨n,xs,zalq am (by omega),a4,by omega⟩;obtain⟨b7,ar,bm⟩:=zz3 am a4 bg;clear am a4 bg;go_wp2_with fail;go_ret;exact⟨⟨_,rfl,bm.out⟩,be.trans (ai.mono be.size)⟩
end Go.Proofs.YtpbdcppaiafbgaaGreat
namespace Go.Mesh
def adP(v:Int)(x y:T3):Nat->Bool
 | 0=>false
 | m+1=>adP v x y m || (vx x m != v&&haB y (vx x m))
def adB(v:Int)(x y:T3):Bool:=adP v x y 3
theorem haB_iff{t:T3}{v:Int}:haB t v=true↔HasV t v:=by
 unfold haB HasV;simp only[Bool.or_eq_true,beq_iff_eq,or_assoc];constructor<;>rintro(h|h|h)<;>simp[h]
theorem adP_iff{v:Int}{x y:T3}:∀m,adP v x y m=true↔∃j,j<m/\vx x j≠v/\HasV y (vx x j)
 | 0=>by simp[adP]
 | m+1=>by
  unfold adP;rw[Bool.or_eq_true,adP_iff m,Bool.and_eq_true,haB_iff,bne_iff_ne];constructor
  ·rintro(⟨j,b,a⟩|⟨b,a⟩)
   ·exact⟨j,by omega,a⟩
   ·exact⟨m,by omega,b,a⟩
  ·rintro⟨j,b,a⟩;by_cases c:j=m
   ·subst c;exact .inr a
   ·exact .inl ⟨j,by omega,a⟩
theorem adB_iff{v:Int}{x y:T3}:adB v x y=true↔∃u,u≠v/\HasV x u/\HasV y u:=by
 unfold adB;rw[adP_iff];constructor
 ·rintro⟨j,a,b,c⟩;exact⟨_,b,vx_has.2 ⟨j,a,rfl⟩,c⟩
 ·rintro⟨u,a,b,c⟩;obtain⟨j,d,rfl⟩:=vx_has.1 b;exact⟨j,d,a,c⟩
section
variable (L : List T3) (v : Int)
def ShutB(P:Nat->Prop):Prop:=∀i k,i<L.length->k<L.length->P i->adB v (Zac L i) (Zac L k)=true->P k
def Cn:Prop:=∀P:Nat->Prop,P 0->ShutB L v P->∀k,k<L.length->P k
structure Mk (M : List Bool) : Prop where
 len:M.length=L.length
 zero:M[0]? = some true
 sound:∀P:Nat->Prop,P 0->ShutB L v P->∀k,M[k]? = some true->P k
def Done(M:List Bool):Prop:=ShutB L v fun k=>M[k]? = some true
def Mid(r i k:Nat)(M:List Bool):Prop:=r+2<=M.count true\/Done L v M \/
 (r+1<=M.count true/\∀i' k',(i'<i\/i'=i/\k'<k)->i'<L.length->k'<L.length->M[i']? = some true->adB v (Zac L i') (Zac L k')=true->M[k']? = some true)
def Top(r:Nat)(M:List Bool):Prop:=r+1<=M.count true\/Done L v M
end
variable {L : List T3} {v : Int} {M : List Bool} {r i k : Nat}
theorem Mk.start(h:0<L.length):Mk L v ((List.replicate L.length false).set 0 true) where
 len:=by simp
 zero:=by rw[List.getElem?_set_self (by simpa using h)]
 sound:=fun P h0 _ k hk=>by
  by_cases a:k=0
  ·subst a;exact h0
  ·rw[List.getElem?_set_ne (by omega),List.getElem?_replicate]at hk
   split at hk<;>cases hk
theorem Top.start(h:0<L.length):Top L v 0 ((List.replicate L.length false).set 0 true):=by
 left;have:true∈(List.replicate L.length false).set 0 true:=List.mem_iff_getElem?.2 ⟨0,by rw[List.getElem?_set_self (by simpa using h)]⟩;have:=List.count_pos_iff.2 this;omega
theorem Top.mid(h:Top L v r M):Mid L v r 0 0 M:=by
 rcases h with h|h
 ·exact .inr (.inr ⟨h,fun i' k' h1=>by omega⟩)
 ·exact .inr (.inl h)
theorem Mid.row(h:Mid L v r i L.length M):Mid L v r (i+1) 0 M:=by
 rcases h with h|h|⟨a,b⟩
 ·exact .inl h
 ·exact .inr (.inl h)
 ·exact .inr (.inr ⟨a,fun i' k' h3 h4 h5=>b i' k' (by omega) h4 h5⟩)
theorem Mid.top(h:Mid L v r L.length 0 M):Top L v (r+1) M:=by
 rcases h with h|h|⟨b,a⟩
 ·exact .inl h
 ·exact .inr h
 ·exact .inr fun i' k' h4 h5 h6 h7=>a i' k' (by omega) h4 h5 h6 h7
theorem Mid.pass(h:Mid L v r i k M)(h9:M[i]? = some true->adB v (Zac L i) (Zac L k)=true->M[k]? = some true):Mid L v r i (k+1) M:=by
 rcases h with h|h|⟨b,c⟩
 ·exact .inl h
 ·exact .inr (.inl h)
 ·refine .inr (.inr ⟨b,fun i' k' h3 h4 h5 h6 h7=>?_⟩);by_cases a:i'=i/\k'=k
  ·obtain⟨rfl,rfl⟩:=a;exact h9 h6 h7
  ·exact c i' k' (by omega) h4 h5 h6 h7
theorem Zmt(hk:M[k]? = some false):(M.set k true).count true=M.count true+1:=by
 obtain⟨a,b⟩:=zS.1 hk;rw[List.count_set a,b];simp
theorem Mid.mark(hm:Mk L v M)(h:Mid L v r i k M)(hi:i<L.length)(hkl:k<L.length)(h1:M[i]? = some true)(hk:M[k]? = some false)(ha:adB v (Zac L i) (Zac L k)=true) :
  Mk L v (M.set k true)/\Mid L v r i (k+1) (M.set k true):=by
 have c:=(zS.1 hk).1;refine⟨⟨by rw[List.length_set];exact hm.len,?_,fun P h0 hs j hj=>?_⟩,?_⟩
 ·by_cases b:k=0
  ·subst b;rw[List.getElem?_set_self c]
  ·rw[List.getElem?_set_ne b];exact hm.zero
 ·by_cases a:k=j
  ·subst a;exact hs i k hi hkl (hm.sound P h0 hs i h1) ha
  ·rw[List.getElem?_set_ne a]at hj;exact hm.sound P h0 hs j hj
 ·rcases h with h|h|⟨d,e⟩
  ·left;rw[Zmt hk];omega
  ·have:M[k]? = some true:=h i k hi hkl h1 ha;rw[hk]at this;cases this
  ·left;rw[Zmt hk];omega
theorem Top.done(hm:Mk L v M)(h:Top L v L.length M):(∀k,k<L.length->M[k]? = some true)↔Cn L v:=by
 have b:Done L v M:=by
  rcases h with h|h
  ·have:=List.count_le_length (a:=true) (l:=M);have:=hm.len;omega
  ·exact h
 exact⟨fun h9 P h0 hs k hk=>hm.sound P h0 hs k (h9 k hk),fun h9=>h9 _ hm.zero b⟩
theorem at_filter(T:List T3)(v:Int):T.filter (haB · v)=(Zbz T v).map (Zac T):=by
 conv=>lhs;rw[Zqx T]
 rw[List.filter_map];unfold Zbz
 congr 1
 apply List.filter_congr;intro i _;show haB (Zac T i) v=hasB T v i;unfold hasB;rw[Bool.eq_iff_iff,haB_iff,decide_eq_true_eq]
theorem cn_pinch{T:List T3}{v:Int}(hne:∃t∈T,HasV t v):Cn (T.filter (haB · v)) v↔Zfq T v:=by
 obtain⟨w,l⟩:=Zqa hne;have q:(Zbz T v).Nodup:=List.nodup_range.sublist List.filter_sublist;have r:(Zbz T v)[0]? = some w:=by rw[<- List.head?_eq_getElem?];exact l
 rw[at_filter];have a:((Zbz T v).map (Zac T)).length=(Zbz T v).length:=zL _;have c:∀i t,(Zbz T v)[i]? = some t->Zac ((Zbz T v).map (Zac T)) i=Zac T t:=fun i t h=>by
  conv=>lhs;unfold Zac
  rw[zD,zJ,h];rfl
 have f:∀i k,AdjT T v i k↔adB v (Zac T i) (Zac T k)=true:=fun i k=>by rw[adB_iff];rfl
 constructor
 ·intro h;refine⟨w,l,fun P n o k e=>?_⟩;obtain⟨j,d⟩:=List.mem_iff_getElem?.1 e;have g:=(zS.1 d).1;have:=h (fun i=>∀t,(Zbz T v)[i]? = some t->P t) (fun t ht=>by rw[r]at ht;cases ht;exact n) (fun i k hi e hp ha t ht=>by
   rw[a]at hi;obtain⟨s,b⟩:∃s,(Zbz T v)[i]? = some s:=⟨_,zG hi⟩;rw[c i s b,c k t ht]at ha;exact o s t (List.mem_of_getElem? b) (List.mem_of_getElem? ht) (hp s b) ((f s t).2 ha)) j (by rw[a];exact g)
  exact this k d
 ·rintro⟨C,m,z⟩ P n o k e;rw[l]at m;cases m;rw[a]at e;have u:∀t∈Zbz T v,∀i,(Zbz T v)[i]? = some t->P i:=z (fun t=>∀i,(Zbz T v)[i]? = some t->P i) (fun i hi=>by
   obtain⟨A,x⟩:=zS.1 hi;obtain⟨B,y⟩:=zS.1 r;rw[(List.getElem_inj q).1 (x.trans y.symm)];exact n) (fun s t b ht hp ha i hi=>by
   obtain⟨j,d⟩:=List.mem_iff_getElem?.1 b;have g:=(zS.1 d).1;have p:=(zS.1 hi).1;refine o j i (by rw[a];exact g) (by rw[a];exact p) (hp j d) ?_;rw[c j s d,c i t hi];exact(f s t).1 ha)
  exact u _ (zM e) k (zG e)
theorem filter_step{T:List T3}{v:Int}{k:Nat}(h:k<T.length):(T.take (k+1)).filter (haB · v)=(T.take k).filter (haB · v)++(if haB (Zac T k) v then[Zac T k]else[]):=by
 rw[zT h,List.filter_append,Zd4 h]
 congr 1
 simp only[List.filter_cons,List.filter_nil]
theorem Zf7{M:List Bool}{i:Nat}{b:Bool}(h:M[i]? = some b):(bvals M)[i]? = some (.bool b):=by unfold bvals;rw[zJ,h];rfl
end Go.Mesh
namespace Go.Proofs.YtpbdcppaiafbgaaGreat
open Go Go.RowKit Go.Words Go.Mesh
def SaysNo(e:Ending)(good:Prop):Prop:=∃b,e=.returned (.bool b)/\(b=false↔good)
def Ztg(e:Ending)(good:Prop):Prop:=∃b,e=.returned (.bool b)/\(b=true↔good)
theorem pinched_calls(sv:Value)(N:Int)(T:List T3)(v:Int)(w:World){B:Nat}(hB0:B<=w.heap.size)(hT:Sl 3 RTri w B sv T)(hfew:T.length<=200) :
  Calls Tryz.prog 173 #[.agg #[.int .i64 N,sv],.int .i64 v] w fun e w'=>SaysNo e (T.filter (haB · v)=[]\/Cn (T.filter (haB · v)) v)/\Below w.heap.size w w':=by
 obtain⟨A,a0,rfl,eu⟩:=hT.form;have b1:=Bk.new w 24 [.int .i64 N,.slice A T.length a0];have bw:=(zr w.heap.size w).alloc zl (.cells #[.int .i64 N,.slice A T.length a0] 24);have cq:=hT.below zaaq (bw.mono hB0);have e0:B<=(w.alloc (.cells #[.int .i64 N,.slice A T.length a0] 24)).heap.size:=by rw[World.size_alloc];omega
 have c1:=b1.cell 1;simp only[List.getElem?_cons_zero,List.getElem?_cons_succ]at c1;have ee:w.heap.size<(w.alloc (.cells #[.int .i64 N,.slice A T.length a0] 24)).heap.size:=by rw[World.size_alloc];omega
 generalize ea:w.alloc (.cells #[.int .i64 N,.slice A T.length a0] 24)=w0 at *;obtain⟨ex,cz,ei⟩:=zz3 hT cq b1;clear hT cq b1;go_enter Tryz.func173,Tryz.ntmps173;go_wp2_with fail;clear ea;go_loopw[5,6] (fun l i wr=>∃k:Nat,k<=T.length/\i=.int .i64 k/\wr.ownsRow w0.heap.size 57 3 l ((T.take k).filter (haB · v)).length (Zan ((T.take k).filter (haB · v)))/\Below w0.heap.size w0 wr) (fun _ i _=>T.length-(intOf i).toNat)
 case atStart=>exact⟨0,by omega,rfl,zn _ _ _ _,zr _ _⟩
 case round =>
  obtain⟨k,hk,rfl,q,a5⟩:=hrel;obtain⟨d,eb⟩:∃d,d=wr:=⟨_,rfl⟩;subst eb;have dr:d.cell? ⟨w.heap.size,1,none⟩=some (.slice A T.length a0):=(a5.cell (p:=⟨w.heap.size,1,none⟩) ee).trans c1;have e9:=a5.size;have dx:w.heap.size<d.heap.size:=by omega
  by_cases c7:k<T.length
  ·have bu:=cz.out.below zaaq (a5.mono e0);obtain⟨b,o,rfl,hb,a1,a2,a3⟩:=bu.tri_at c7;rw[Zd4 c7]at a1 a2 a3;have c5:b<d.heap.size:=by omega
   have I:=filter_step (T:=T) (v:=v) c7;have e4:((T.take k).filter (haB · v)).length<=k:=Nat.le_trans (List.length_filter_le _ _) (by rw[List.length_take];omega);generalize Zac T k=x at *;generalize (T.take k).filter (haB · v)=L9 at *;obtain⟨x1,x2,x3⟩:=x;simp only[]at a1 a2 a3;have Q:=Zm0 (x1,x2,x3) v;obtain⟨af,el,ax,W⟩:=zz4 q bu I Q;clear q bu I Q;go_wp2_with fail;refine(W.out _).mono ?_;rintro e w2 ⟨rfl,a4⟩;have f0:w2.cell? ⟨w.heap.size,1,none⟩=some (.slice (some ⟨b,o,none⟩) T.length a0):=(a4.cell (p:=⟨w.heap.size,1,none⟩) dx).trans dr;have d1:=(a4.cell (p:=⟨b,o+k*3,none⟩) c5).trans a1;have d2:=(a4.cell (p:=⟨b,o+k*3+1,none⟩) c5).trans a2;have d3:=(a4.cell (p:=⟨b,o+k*3+2,none⟩) c5).trans a3;have f7:=a4.size;have S:=zafq af.out a4 zl;have I:=ax.out;have b8:=a5.trans (a4.mono e9);cases hq:haB (x1,x2,x3) v with
   | false =>
    rw[hq,if_neg (by simp),List.append_nil]at I;rw[<- I]at S;obtain⟨Y,dl,ax⟩:=zz3 S hq I;clear S hq I;go_wp2_with fail;exact⟨⟨k+1,by omega,by simp,Y.out,b8⟩,by simp[intOf];omega⟩
   | true =>
    rw[hq,if_pos rfl]at I;have cs:∀(w5:World) (v5:Value),w5.ownsRow w0.heap.size 57 3 v5 (L9.length+1) (Zan L9++[.int .i64 x1,.int .i64 x2,.int .i64 x3])->w5.ownsRow w0.heap.size 57 3 v5 ((T.take (k+1)).filter (haB · v)).length (Zan ((T.take (k+1)).filter (haB · v))):=fun w5 v5 h5=>by
     rw[I,Zds,zA];exact h5
    obtain⟨Y,dl,ax,d4⟩:=zz4 S hq I cs;clear S hq I cs;go_wp2_with(at_builtin;refine zajq _ rfl (.tmp 27) (.tmp 33) 22 rfl w0.heap.size Zoi Tryz.underlying22 rfl (by decide) _ L9.length (Zan L9) rfl (Y.out.alloc _) w2.heap.size [.int .i64 x1,.int .i64 x2,.int .i64 x3] rfl (Bk.new _ _ _) rfl (by simp[Value.oneCell']) (by omega) (by omega) (by simp;omega) ?_;intro v1 w5 be b7 _ _;have bs:=zz be;clear be);exact⟨⟨k+1,by omega,by simp,d4.out _ _ bs.out,(b8.alloc (by omega) _).trans b7⟩,by simp[intOf];omega⟩
  ·obtain rfl:k=T.length:=by omega
   rw[List.take_length]at q;have e4:(T.filter (haB · v)).length<=T.length:=List.length_filter_le _ _;generalize hL:T.filter (haB · v)=L at *;have bm:=zz hL;clear hL;have a6:=bw.trans (a5.mono bw.size);by_cases hn:L.length=0
   ·have e5:L=[]:=List.length_eq_zero_iff.1 hn;have f5:((L.length:Int)==0)=true:=by rw[hn];rfl
    obtain⟨A2,de,rfl,dw⟩:=zaeq q;clear hn;have af:=zz q;clear q;go_wp2_with fail;go_ret;exact⟨⟨false,rfl,⟨fun _=>.inl (bm.out.trans e5),fun _=>rfl⟩⟩,a6⟩
   ·obtain⟨A2,de,rfl,dw⟩:=zaeq q;obtain⟨gL,rfl⟩:=zbeq q (by omega);have f2:=(q.lt gL rfl).2;have ca:=Zdh q;have cp:∀wz,Below d.heap.size d wz->∀i,i<L.length->∀j,j<3->wz.cell? ⟨gL,i*3+j,none⟩=some (.int .i64 (Mesh.vt L (3*i+j))):=fun wz hz i hi j hj=>by
     obtain⟨b,o,h1,h2,h3⟩:=Zbw (ca.below zaaq hz) hi;injection h1 with h1;injection h1 with h1 h4;subst h1;subst h4;have:=h3 j hj
     rwa [Nat.zero_add]at this
    have e6:=Zaq (P:=Tryz.prog) 130 Tryz.underlying130 Zlz rfl L.length (by omega) (by omega);have f4:((L.length:Int)==0)=false:=by rw[beq_eq_false_iff_ne];omega
    have ew:0<(L.length:Int):=by omega
    have ct:=Mk.start (L:=L) (v:=v) (by omega);have cb:=Top.start (L:=L) (v:=v) (by omega);have c8:bvals (List.replicate L.length false)=List.replicate L.length (.bool false):=by unfold bvals;rw[List.map_replicate]
    have bv:(Array.replicate L.length (Value.bool false)).setIfInBounds 0 (.bool true)=(bvals ((List.replicate L.length false).set 0 true)).toArray:=by
     rw[<- Zft,c8,<- List.toArray_replicate,List.setIfInBounds_toArray]
    have bz:=Bk.new d 4 (bvals ((List.replicate L.length false).set 0 true));rw[<- bv]at bz;have dv:=(zr d.heap.size d).alloc zl (.cells ((Array.replicate L.length (Value.bool false)).setIfInBounds 0 (.bool true)) 4);have e8:(Array.replicate L.length (Value.bool false))[0]? = some (.bool false):=by rw[Array.getElem?_replicate,if_pos (by omega)]
    clear bv c8;obtain⟨af,eo,cy,d5,ci,bp⟩:=zz6 q ca cp ct cb bz;clear q ca cp ct cb bz;go_wp2_with fail;clear e6 e8;generalize ec:d.alloc (.cells ((Array.replicate L.length (Value.bool false)).setIfInBounds 0 (.bool true)) 4)=wm at *;clear ec;have es:=bp.out.lt;go_loopw[45] (fun rv wr=>∃(r:Nat) (M:List Bool),r<=L.length/\rv=.int .i64 r/\Mk L v M/\Top L v r M/\Bk wr d.heap.size 4 (bvals M)/\Below d.heap.size d wr) (fun rv _=>L.length-(intOf rv).toNat)
    case atStart=>exact⟨0,_,by omega,rfl,d5.out,ci.out,bp.out,dv⟩
    case round =>
     obtain⟨r,M,hr,rfl,a7,J,ai,c2⟩:=hrel;by_cases f6:r<L.length
     ·have bc:=J.mid;obtain⟨ae,bt,ac,br⟩:=zz4 a7 J ai bc;clear a7 J ai bc;go_wp2_with fail;go_loopw[8] (fun iv wr=>∃(i:Nat) (M:List Bool),i<=L.length/\iv=.int .i64 i/\Mk L v M/\Mid L v r i 0 M/\Bk wr d.heap.size 4 (bvals M)/\Below d.heap.size d wr) (fun iv _=>L.length-(intOf iv).toNat)
      case atStart=>exact⟨0,M,by omega,rfl,ae.out,br.out,ac.out,c2⟩
      case round =>
       obtain⟨i,M2,hi,rfl,ak,R,ah,c3⟩:=hrel;by_cases V:i<L.length
       ·obtain⟨ad,aq,aa⟩:=zz3 ak R ah;clear ak R ah;go_wp2_with fail;go_loopw[9] (fun kv wr=>∃(k:Nat) (M:List Bool),k<=L.length/\kv=.int .i64 k/\Mk L v M/\Mid L v r i k M/\Bk wr d.heap.size 4 (bvals M)/\Below d.heap.size d wr) (fun kv _=>L.length-(intOf kv).toNat)
        case atStart=>exact⟨0,M2,by omega,rfl,ad.out,aq.out,aa.out,c3⟩
        case round =>
         obtain⟨k,F,f3,rfl,n,a,s,aj⟩:=hrel;by_cases av:k<L.length
         ·obtain⟨bi,g⟩:∃b,F[i]? = some b:=⟨_,zG (by rw[n.len];exact V)⟩;obtain⟨bk,E⟩:∃b,F[k]? = some b:=⟨_,zG (by rw[n.len];exact av)⟩;have b9:=s.cell i;rw[Zf7 g]at b9;have cr:=s.cell k;rw[Zf7 E]at cr;cases bi with
          | false =>
           have H:=a.pass fun h=>by rw[g]at h;cases h
           obtain⟨C,X,t,a9,b5,K⟩:=zz6 n a s g E H;clear n a s g E H;go_wp2_with fail;exact⟨⟨k+1,F,by omega,by simp,C.out,K.out,t.out,aj⟩,by simp[intOf];omega⟩
          | true =>
           cases bk with
           | true =>
            have H:=a.pass fun _ _=>E
            obtain⟨C,X,t,a9,b5,K⟩:=zz6 n a s g E H;clear n a s g E H;go_wp2_with fail;exact⟨⟨k+1,F,by omega,by simp,C.out,K.out,t.out,aj⟩,by simp[intOf];omega⟩
           | false =>
            have au:=cy.out;obtain⟨y,hy⟩:∃y,Zac L k=y:=⟨_,rfl⟩;obtain⟨x,hx⟩:∃x,Zac L i=x:=⟨_,rfl⟩;have ce:∀wz,Below d.heap.size d wz->wz.cell? ⟨gL,k*3,none⟩=some (.int .i64 y.1)/\wz.cell? ⟨gL,k*3+1,none⟩=some (.int .i64 y.2.1)/\wz.cell? ⟨gL,k*3+2,none⟩=some (.int .i64 y.2.2):=fun wz hz=>by
             have g0:=au wz hz k av 0 (by omega);have g1:=au wz hz k av 1 (by omega);have g2:=au wz hz k av 2 (by omega);rw[zauq L k 0 (by omega),hy]at g0;rw[zauq L k 1 (by omega),hy]at g1;rw[zauq L k 2 (by omega),hy]at g2;exact⟨g0,g1,g2⟩
            have cx:∀wz,Below d.heap.size d wz->∀m,m<3->wz.cell? ⟨gL,i*3+m,none⟩=some (.int .i64 (vx x m)):=fun wz hz m hm=>by
             have g0:=au wz hz i V m hm
             rwa [zauq L i m hm,hx]at g0
            have c9:∀bd:Bool,(if bd then F.set k true else F).set k true=F.set k true:=fun bd=>by
             cases bd with
             | false=>rfl
             | true=>simp
            have Q:=fun u=>Zm0 y u
            have cv:adB v x y=true->Mk L v (F.set k true)/\Mid L v r i (k+1) (F.set k true):=fun ha=>a.mark n V av g E (by rw[hx,hy];exact ha)
            have cu:adB v x y=false->Mid L v r i (k+1) F:=fun ha=>a.pass fun _ h=>by rw[hx,hy,ha]at h;cases h
            have bb:=n.len;obtain⟨y1,y2,y3⟩:=y;simp only[triV]at ce Q;clear au;obtain⟨C,X,t,a9,b5,ey,ez,d9,d8,ch,W,d7⟩:=zz12 n a s g E hx hy ce cx c9 Q cv;obtain⟨d6,bq⟩:=zz2 cu bb;clear n a s g E hx hy ce cx c9 Q cv cu bb;go_wp2_with fail;go_loopw[10] (fun jv wz=>∃m:Nat,m<=3/\jv=.int .i64 m/\Bk wz d.heap.size 4 (bvals (if adP v x (y1,y2,y3) m then F.set k true else F))/\Below d.heap.size d wz) (fun jv _=>3-(intOf jv).toNat)
            case atStart=>exact⟨0,by omega,rfl,t.out,aj⟩
            case round =>
             clear b9 cr;obtain⟨m,hm,rfl,f,O⟩:=hrel;have ef:=O.size;have df:=f.lt;by_cases e7:m<3
             ·have c:adP v x (y1,y2,y3) (m+1)=(adP v x (y1,y2,y3) m || (vx x m != v&&haB (y1,y2,y3) (vx x m))):=rfl;have f1:=d8.out wr O m e7;generalize vx x m=u at *;generalize az:adP v x (y1,y2,y3) (m+1)=dp at *;generalize adP v x (y1,y2,y3) m=bd at *;by_cases cw:u=v
              ·have bx:dp=bd:=by rw[c,cw];simp
               rw[<- bx]at f;obtain⟨z,Z,em⟩:=zz3 f c bx;clear f c bx;go_wp2_with fail;exact⟨⟨m+1,by omega,by simp,by rw[az];exact z.out,O⟩,by simp[intOf];omega⟩
              ·have cc:(u != v)=true:=bne_iff_ne.2 cw;rw[cc,Bool.true_and]at c;clear cc;obtain⟨e1,e2,e3⟩:=d9.out wr O;have Q:=W.out u wr;generalize haB (y1,y2,y3) u=hq at *;obtain⟨z,Z,W⟩:=zz3 f c Q;clear f c Q;go_wp2_with fail;refine W.out.mono ?_;rintro e w5 ⟨rfl,b7⟩;have D:=z.out.below b7 df;have c4:=O.trans (b7.mono ef);have c:=Z.out;cases hq with
               | false =>
                rw[Bool.or_false]at c;rw[<- c]at D;obtain⟨b4,Z⟩:=zz2 D c;clear D c;go_wp2_with fail;exact⟨⟨m+1,by omega,by simp,by rw[az];exact b4.out,c4⟩,by simp[intOf];omega⟩
               | true =>
                rw[Bool.or_true]at c;have et:=D.lt;have ev:=D.frozen k;obtain⟨bo,c0⟩:∃b,(if bd then F.set k true else F)[k]? = some b:=⟨_,zG (by
                 have:=bq.out;cases bd<;>simp<;>omega)⟩
                have dj:=D.cell k;rw[Zf7 c0]at dj;have b0:=D.set k (.bool true);rw[Zft,ch.out]at b0;have dg:=c4.setCell (p:=⟨d.heap.size,k,none⟩) zl (.bool true);subst c;obtain⟨b4,cg,en⟩:=zz3 D b0 c0;clear D b0 c0;go_wp2_with fail;exact⟨⟨m+1,by omega,by simp,by rw[az,if_pos rfl];exact cg.out,dg⟩,by simp[intOf];omega⟩
             ·obtain rfl:m=3:=by omega
              change Bk wr d.heap.size 4 (bvals (if adB v x (y1,y2,y3)then F.set k true else F))at f
              cases U:adB v x (y1,y2,y3)with
              | true =>
               obtain⟨h1,h2⟩:=d7.out U;rw[U,if_pos rfl]at f;obtain⟨z,d0,dk,bl⟩:=zz4 f U h1 h2;clear f U h1 h2;go_wp2_with fail;exact⟨⟨k+1,_,by omega,by simp,dk.out,bl.out,z.out,O⟩,by simp[intOf];omega⟩
              | false =>
               have h2:=d6.out U;rw[U,if_neg (by simp)]at f;obtain⟨z,d0,bl⟩:=zz3 f U h2;clear f U h2;go_wp2_with fail;exact⟨⟨k+1,_,by omega,by simp,C.out,bl.out,z.out,O⟩,by simp[intOf];omega⟩
         ·obtain rfl:k=L.length:=by omega
          have H:=a.row;obtain⟨C,X,t,K⟩:=zz4 n a s H;clear n a s H;go_wp2_with fail;exact⟨⟨i+1,F,by omega,by simp,C.out,K.out,t.out,aj⟩,by simp[intOf];omega⟩
       ·obtain rfl:i=L.length:=by omega
        have H:=R.top;obtain⟨ad,aq,aa,K⟩:=zz4 ak R ah H;clear ak R ah H;go_wp2_with fail;exact⟨⟨r+1,M2,by omega,by simp,ad.out,K.out,aa.out,c3⟩,by simp[intOf];omega⟩
     ·obtain rfl:r=L.length:=by omega
      have ba:=J.done a7;obtain⟨ae,bt,ac,ap⟩:=zz4 a7 J ai ba;clear a7 J ai ba;go_wp2_with fail;go_loopw[12] (fun iv wz=>∃i:Nat,i<=L.length/\iv=.int .i64 i/\(∀k,k<i->M[k]? = some true)/\wz=wr) (fun iv _=>L.length-(intOf iv).toNat)
      case atStart=>exact⟨0,by omega,rfl,fun k hk=>by omega,rfl⟩
      case round =>
       obtain⟨i,hi,rfl,G,ed⟩:=hrel;subst ed;by_cases V:i<L.length
       ·obtain⟨bi,g⟩:∃b,M[i]? = some b:=⟨_,zG (by rw[ae.out.len];exact V)⟩;have b9:=ac.out.cell i;rw[Zf7 g]at b9;cases bi with
        | true =>
         have b6:∀k,k<i+1->M[k]? = some true:=fun k hk=>by
          by_cases dz:k=i
          ·rw[dz];exact g
          ·exact G k (by omega)
         obtain⟨b3,a9,bn⟩:=zz3 G g b6;clear G g b6;go_wp2_with fail;exact⟨⟨i+1,by omega,by simp,bn.out,trivial⟩,by simp[intOf];omega⟩
        | false =>
         have a8:true=false↔L=[]\/Cn L v:=by
          constructor
          ·intro h;cases h
          ·rintro(h|h)
           ·rw[h]at V;exact absurd V (Nat.not_lt_zero _)
           ·have:=ap.out.2 h i V;rw[g]at this;cases this
         have c6:=zapq a6 c2 a6.size;obtain⟨b3,a9,ag⟩:=zz3 G g a8;clear G g a8;go_wp2_with fail;go_ret;exact⟨⟨true,rfl,by rw[bm.out];exact ag.out⟩,c6⟩
       ·obtain rfl:i=L.length:=by omega
        have a8:=ap.out.1 G;have c6:=zapq a6 c2 a6.size;obtain⟨b3,ag⟩:=zz2 G a8;clear G a8;go_wp2_with fail;go_ret;exact⟨⟨false,rfl,by rw[bm.out];exact⟨fun _=>.inr ag.out,fun _=>rfl⟩⟩,c6⟩
end Go.Proofs.YtpbdcppaiafbgaaGreat
namespace Go.Mesh
theorem edB_iff{u:T3}{x y:Int}:edB u x y=true↔∃j,j<3/\vx u j=x/\vx u ((j+1)%3)=y:=by
 unfold edB;simp only[Bool.or_eq_true,Bool.and_eq_true,beq_iff_eq];constructor
 ·rintro((⟨a,b⟩|⟨a,b⟩)|⟨a,b⟩)
  ·exact⟨0,by omega,a,b⟩
  ·exact⟨1,by omega,a,b⟩
  ·exact⟨2,by omega,a,b⟩
 ·rintro⟨j,c,a,b⟩
  match j,c with
  | 0,_=>exact .inl (.inl ⟨a,b⟩)
  | 1,_=>exact .inl (.inr ⟨a,b⟩)
  | 2,_=>exact .inr ⟨a,b⟩
theorem twB_iff{t u:T3}:twB t u=true↔∃k j,k<3/\j<3/\vx u j=vx t k/\vx u ((j+1)%3)=vx t ((k+1)%3):=by
 unfold twB;simp only[Bool.or_eq_true,edB_iff];constructor
 ·rintro((⟨j,a,b⟩|⟨j,a,b⟩)|⟨j,a,b⟩)
  ·exact⟨0,j,by omega,a,b⟩
  ·exact⟨1,j,by omega,a,b⟩
  ·exact⟨2,j,by omega,a,b⟩
 ·rintro⟨k,j,d,c,h⟩
  match k,d with
  | 0,_=>exact .inl (.inl ⟨j,c,h⟩)
  | 1,_=>exact .inl (.inr ⟨j,c,h⟩)
  | 2,_=>exact .inr ⟨j,c,h⟩
theorem vsB_iff{t u:T3}:vsB t u=true↔∀k,k<3->∃m,m<3/\vx t k=vx u m:=by
 unfold vsB;simp only[Bool.and_eq_true,haB_iff,vx_has];constructor
 ·rintro⟨⟨⟨a,d,e⟩,⟨b,f,g⟩⟩,⟨c,i,j⟩⟩ k l
  match k,l with
  | 0,_=>exact⟨a,d,e.symm⟩
  | 1,_=>exact⟨b,f,g.symm⟩
  | 2,_=>exact⟨c,i,j.symm⟩
 ·intro h;obtain⟨a,d,e⟩:=h 0 (by omega);obtain⟨b,f,g⟩:=h 1 (by omega);obtain⟨c,i,j⟩:=h 2 (by omega);exact⟨⟨⟨a,d,e.symm⟩,⟨b,f,g.symm⟩⟩,⟨c,i,j.symm⟩⟩
def G2(T:List T3):Prop:=∀i,i<T.length->Za5 (Zac T i)
def G5(N:Int)(T:List T3):Prop:=∀u:Nat,(u:Int)<N->∃i,i<T.length/\haB (Zac T i) u=true
def G6(N:Int)(T:List T3):Prop:=∀u:Nat,(u:Int)<N->T.filter (haB · (u:Int))=[]\/Cn (T.filter (haB · (u:Int))) u
theorem g2_all{T:List T3}:G2 T↔∀t∈T,Za5 t:=by
 constructor
 ·intro h t a;obtain⟨i,hi,rfl⟩:=Zc8 a;exact h i hi
 ·exact fun h i hi=>h _ (Zcg hi)
theorem Zxq(T:List T3)(c:Nat):eg T (pv c)=(vt T c,vt T (nx c)):=by unfold eg;rw[Zcf,Zfy]
theorem g3_iff{T:List T3}(h2:G2 T):Zos twB T T.length↔∀c d,c<3*T.length->d<3*T.length->eg T c=eg T d->c=d:=by
 have p:=g2_all.1 h2;constructor
 ·intro h;have g:∀c d,c<3*T.length->d<3*T.length->c/3<d/3->eg T c=eg T d->False:=fun c d f i hcd e=>by
   have:=h (d/3) (c/3) (by omega) hcd;have l:twB (Zac T (c/3)) (Zac T (d/3))=true:=twB_iff.2 ⟨(c+1)%3,(d+1)%3,by omega,by omega,by
    have:=congrArg Prod.fst e;simp only[eg]at this;rw[vt_nx,vt_nx]at this;exact this.symm,by
    have:=congrArg Prod.snd e;simp only[eg]at this;rw[vt_pv,vt_pv]at this;rw[show((d+1)%3+1)%3=(d+2)%3 by omega,show((c+1)%3+1)%3=(c+2)%3 by omega];exact this.symm⟩
   rw[this]at l;cases l
  intro c d f i e;by_cases o:c/3<d/3
  ·exact(g c d f i o e).elim
  ·by_cases q:d/3<c/3
   ·exact(g d c i f q e.symm).elim
   ·have u:vt T (nx c)=vt T (nx d):=congrArg Prod.fst e;exact Zvi (Zxp p (Zam f) (by rw[Zbu,Zbu];omega) u)
 ·intro h b a w v;cases t:twB (Zac T a) (Zac T b)with
  | false=>rfl
  | true =>
   obtain⟨k,j,s,r,m,n⟩:=twB_iff.1 t;have:=h (pv (3*a+k)) (pv (3*b+j)) (Zaj (by omega)) (Zaj (by omega)) (by
    rw[Zxq,Zxq,zauq T a k s,zauq T b j r,vt_nx,vt_nx,show(3*a+k)/3=a by omega,show(3*b+j)/3=b by omega,show(3*a+k+1)%3=(k+1)%3 by omega,show(3*b+j+1)%3=(j+1)%3 by omega,m,n])
   have:=Zr4 this;omega
theorem g4_iff{T:List T3}:Zos vsB T T.length↔∀i j,i<j->j<T.length->¬ ∀k,k<3->∃m,m<3/\vt T (3*i+k)=vt T (3*j+m):=by
 have e:∀i j,vsB (Zac T i) (Zac T j)=true↔∀k,k<3->∃m,m<3/\vt T (3*i+k)=vt T (3*j+m):=fun i j=>by
  rw[vsB_iff];constructor
  ·intro h k c;obtain⟨m,d,f⟩:=h k c;exact⟨m,d,by rw[zauq T i k c,zauq T j m d];exact f⟩
  ·intro h k c;obtain⟨m,d,f⟩:=h k c;rw[zauq T i k c,zauq T j m d]at f;exact⟨m,d,f⟩
 constructor
 ·intro h i j l p n;have:=h j i p l;rw[(e i j).2 n]at this;cases this
 ·intro h b a o g;cases q:vsB (Zac T a) (Zac T b)with
  | false=>rfl
  | true=>exact absurd ((e a b).1 q) (h a b g o)
theorem has_mem{T:List T3}{v:Int}:(∃i,i<T.length/\haB (Zac T i) v=true)↔∃t∈T,HasV t v:=by
 constructor
 ·rintro⟨i,hi,h⟩;exact⟨_,Zcg hi,haB_iff.1 h⟩
 ·rintro⟨t,a,h⟩;obtain⟨i,hi,rfl⟩:=Zc8 a;exact⟨i,hi,haB_iff.2 h⟩
theorem surf_iff{N:Int}{T:List T3}(hlen:T.length<=8192):Surf N T↔Idx N T/\G2 T/\Zos twB T T.length/\Zos vsB T T.length/\G5 N T/\G6 N T:=by
 constructor
 ·intro h;have b:G2 T:=g2_all.2 ((Zj6 T).2 h.loop);have f:G5 N T:=fun u a=>by
   obtain⟨c,k,j⟩:=h.used u (by omega) a;exact⟨c/3,by omega,haB_iff.2 ((Zey T c u).2 (.inl j.symm))⟩
  refine⟨⟨h.n0,h.nmax,h.rng⟩,b,(g3_iff b).2 h.once,g4_iff.2 h.mirror,f,fun u a=>?_⟩;have e:=has_mem.1 (f u a);exact .inr ((cn_pinch e).2 (pinch_of (g2_all.1 b) e (h.fan u (by omega) a)))
 ·rintro⟨⟨m,n,o⟩,b,p,q,f,r⟩;exact {
   n0:=m,nmax:=n,tmax:=hlen,rng:=o
   loop:=(Zj6 T).1 (g2_all.1 b)
   once:=(g3_iff b).1 p
   mirror:=g4_iff.1 q
   used:=fun v h0 j=>by
    obtain⟨t,g,a⟩:=has_mem.1 (f v.toNat (by omega));rw[Int.toNat_of_nonneg h0]at a;obtain⟨i,hi,rfl⟩:=Zc8 g;obtain⟨c,k,_,l⟩:=Zbj hi a;exact⟨c,k,l⟩
   fan:=fun v h0 j=>by
    have e:=has_mem.1 (f v.toNat (by omega));have d:=r v.toNat (by omega);rw[Int.toNat_of_nonneg h0]at e d;rcases d with d|d
    ·obtain⟨t,g,a⟩:=e;have:t∈T.filter (haB · v):=zQ.2 ⟨g,haB_iff.2 a⟩;rw[d]at this;cases this
    ·exact fan_of (g2_all.1 b) ((cn_pinch e).1 d) }
end Go.Mesh
namespace Go.Proofs.YtpbdcppaiafbgaaGreat
open Go Go.RowKit Go.Words Go.Mesh
theorem all9_calls(sv:Value)(N:Int)(T:List T3)(w:World){B:Nat}(hB0:B<=w.heap.size)(hT:Sl 3 RTri w B sv T)(hfew:T.length<=200) :
  Calls Tryz.prog 155 #[.agg #[.int .i64 N,sv]] w fun e w'=>(∃v',e=.returned v'/\Wz w' w.heap.size v' (Surf N T))/\Below w.heap.size w w':=by
 obtain⟨A,S,rfl,cu⟩:=hT.form;have bz:=surf_iff (N:=N) (T:=T) (by omega);have ac:=Bk.new w 24 [.int .i64 N,.slice A T.length S];have M:=(zr w.heap.size w).alloc zl (.cells #[.int .i64 N,.slice A T.length S] 24);have b4:=hT.below zaaq (M.mono hB0);have aa:B<=(w.alloc (.cells #[.int .i64 N,.slice A T.length S] 24)).heap.size:=by rw[World.size_alloc];omega
 have c0:=ac.cell 0;have c1:=ac.cell 1;simp only[List.getElem?_cons_zero,List.getElem?_cons_succ]at c0 c1;have K:w.heap.size<(w.alloc (.cells #[.int .i64 N,.slice A T.length S] 24)).heap.size:=by rw[World.size_alloc];omega
 generalize ck:w.alloc (.cells #[.int .i64 N,.slice A T.length S] 24)=w0 at *;have bo:=index9_calls (.slice A T.length S) N T w0 aa b4 (by omega);have bw:=fun kind p hk wz (hz:Sl 3 RTri wz B (.slice A T.length S) T) (a4:B<=wz.heap.size)=>pairs9_calls (.slice A T.length S) N T kind p hk wz a4 hz hfew
 have bu:=fun v wz (hz:Sl 3 RTri wz B (.slice A T.length S) T) (a4:B<=wz.heap.size)=>pinched_calls (.slice A T.length S) N T v wz a4 hz hfew
 obtain⟨d1,a5,cs,W,c9,ax,cc⟩:=zz7 hT b4 ac bz bo bw bu;clear hT b4 ac bz bo bw bu;go_enter Tryz.func155,Tryz.ntmps155;go_wp2_with fail;refine c9.out.mono ?_;clear ck;rintro e w1 ⟨⟨v1,rfl,n,H,a,f,aj⟩,c⟩;have cp:=c.size;by_cases hn:0<n
 ·have g:Wz w1 w.heap.size _ (Surf (N) T):=⟨n,H,zalq a (by omega),⟨fun D=>absurd D (by omega),fun D=>absurd (f.2 ((W.out.1 D).1)) (by omega)⟩,by omega⟩;have J:=M.trans (c.mono M.size);obtain⟨A7,L,rfl,q⟩:=zaeq a;obtain⟨d,C,R⟩:=zz3 a g f;clear a g f;go_wp2_with fail;go_ret;exact⟨⟨_,rfl,C.out⟩,J⟩
 obtain rfl:n=0:=by omega
 have ao:=f.1 rfl;have d2:=ao.1;have d3:=ao.2.1;obtain⟨nN,rfl⟩:∃nN:Nat,N=(nN:Int):=⟨N.toNat,by omega⟩;clear f hn;obtain⟨A7,L,rfl,q⟩:=zaeq a;have P:=(c.cell (p:=⟨w.heap.size,0,none⟩) K).trans c0;have Q:=(c.cell (p:=⟨w.heap.size,1,none⟩) K).trans c1;obtain⟨d,c3⟩:=zz2 a ao;clear a ao;go_wp2_with fail;go_loopw[3,4] (fun l i wr=>∃(k n:Nat) (H:List Value),k<=T.length/\i=.int .i64 k/\wr.ownsRow w0.heap.size 200 3 l n H/\(n=0↔∀i,i<k->Za5 (Zac T i))/\n<=k/\Below w0.heap.size w0 wr) (fun _ i _=>T.length-(intOf i).toNat)
 case atStart=>exact⟨0,0,H,by omega,rfl,d.out,⟨fun _ i hi=>by omega,fun _=>rfl⟩,by omega,c⟩
 case round =>
  clear P Q c cp q;obtain⟨k,n,H,hk,rfl,a,f,aj,c⟩:=hrel;obtain⟨w2,cm⟩:∃w2,w2=wr:=⟨_,rfl⟩;subst cm;have a4:=c.size;have P:=(c.cell (p:=⟨w.heap.size,0,none⟩) K).trans c0;have Q:=(c.cell (p:=⟨w.heap.size,1,none⟩) K).trans c1;by_cases bp:k<T.length
  ·obtain⟨b,o,rfl,hb,a1,a2,a3⟩:=(a5.out.below zaaq (c.mono aa)).tri_at bp;rw[Zd4 bp]at a1 a2 a3;have d4:b<w2.heap.size:=by omega
   have s:∀n3:Nat,(n3=0↔n=0/\Za5 (Zac T k))->(n3=0↔∀i,i<k+1->Za5 (Zac T i)):=fun n3 h3=>by
    rw[h3,f];constructor
    ·rintro⟨X,h5⟩ i hi;by_cases ch:i=k
     ·rw[ch];exact h5
     ·exact X i (by omega)
    ·exact fun X=>⟨fun i hi=>X i (by omega),X k (by omega)⟩
   generalize Zac T k=x at *;obtain⟨x1,x2,x3⟩:=x;simp only[]at a1 a2 a3;have bn:=(c.alloc a4 (.cells #[.int .i64 x1,.int .i64 x2,.int .i64 x3] 57));have o1:=a.alloc (.cells #[.int .i64 x1,.int .i64 x2,.int .i64 x3] 57);by_cases ht:x1≠x2/\x2≠x3/\x3≠x1
   ·have F:=s n ⟨fun h=>⟨h,ht⟩,fun h=>h.1⟩;obtain⟨t1,t2,t3⟩:=ht;obtain⟨d,R,ay,O,I⟩:=zz5 a f o1 s F;clear a f o1 s F;go_wp2_with fail;exact⟨⟨k+1,n,H,by omega,by simp,ay.out,I.out,by omega,bn⟩,by simp[intOf];omega⟩
   ·have F:=s (n+1) ⟨fun h=>by omega,fun h=>absurd h.2 ht⟩;have h3:x1=x2\/(x1≠x2/\(x2=x3\/(x2≠x3/\x3=x1))):=by omega
    obtain⟨d,R,ay,O,I⟩:=zz5 a f o1 s F;clear a f o1 s F;clear ht;rcases h3 with rfl|⟨t1,rfl|⟨t2,rfl⟩⟩
    all_goals
     go_wp2_with(at_builtin;refine zajq _ rfl (.tmp 47) (.tmp 50) 183 rfl w0.heap.size Zl0 Tryz.underlying183 rfl (by decide) _ n H rfl (ay.out.alloc _) (w2.heap.size+1) [.int .i64 2,.int .i64 k,.int .i64 0] rfl (Bk.new' _ _ (by simp)) rfl (by simp[Value.oneCell']) (by omega) (by omega) (by simp;omega) ?_;intro v1 w5 ap cg _ _;have aw:=zz ap;clear ap);exact⟨⟨k+1,n+1,_,by omega,by simp,aw.out,I.out,by omega,(bn.alloc (by simp;omega) _).trans cg⟩,by simp[intOf];omega⟩
  obtain rfl:k=T.length:=by omega
  by_cases hn:0<n
  ·have g:Wz w2 w.heap.size _ (Surf ((nN:Int)) T):=⟨n,H,zalq a (by omega),⟨fun D=>absurd D (by omega),fun D=>absurd (f.2 ((W.out.1 D).2.1)) (by omega)⟩,by omega⟩;have J:=M.trans (c.mono M.size);obtain⟨A7,L,rfl,q⟩:=zaeq a;obtain⟨d,C,R⟩:=zz3 a g f;clear a g f;go_wp2_with fail;go_ret;exact⟨⟨_,rfl,C.out⟩,J⟩
  obtain rfl:n=0:=by omega
  have bj:G2 T:=f.1 rfl;obtain⟨A7,L,rfl,q⟩:=zaeq a;have bs:=ax.out 3 twB (.inl ⟨rfl,rfl⟩) w2 (a5.out.below zaaq (c.mono aa)) (by omega);clear f hn;obtain⟨d,c4,ca⟩:=zz3 a bj bs;clear a bj bs;go_wp2_with fail;refine ca.out.mono ?_;rintro e w3 ⟨⟨v1,rfl,n,H,a,f,aj⟩,U⟩;have a:=zalq a a4;have c:=c.trans (U.mono a4);have b8:=c.size;clear P Q U a4;have P:=(c.cell (p:=⟨w.heap.size,0,none⟩) K).trans c0;have Q:=(c.cell (p:=⟨w.heap.size,1,none⟩) K).trans c1;by_cases hn:0<n
  ·have g:Wz w3 w.heap.size _ (Surf ((nN:Int)) T):=⟨n,H,zalq a (by omega),⟨fun D=>absurd D (by omega),fun D=>absurd (f.2 ((W.out.1 D).2.2.1)) (by omega)⟩,by omega⟩;have J:=M.trans (c.mono M.size);obtain⟨A7,L,rfl,q⟩:=zaeq a;obtain⟨d,C,R⟩:=zz3 a g f;clear a g f;go_wp2_with fail;go_ret;exact⟨⟨_,rfl,C.out⟩,J⟩
  obtain rfl:n=0:=by omega
  have bk:=f.1 rfl;obtain⟨A7,L,rfl,q⟩:=zaeq a;have bt:=ax.out 4 vsB (.inr ⟨rfl,rfl⟩) w3 (a5.out.below zaaq (c.mono aa)) (by omega);clear f hn;obtain⟨d,c5,cb⟩:=zz3 a bk bt;clear a bk bt;go_wp2_with fail;refine cb.out.mono ?_;rintro e w4 ⟨⟨v1,rfl,n,H,a,f,aj⟩,U⟩;have a:=zalq a b8;have c:=c.trans (U.mono b8);have cq:=c.size;clear P Q U b8;have P:=(c.cell (p:=⟨w.heap.size,0,none⟩) K).trans c0;have Q:=(c.cell (p:=⟨w.heap.size,1,none⟩) K).trans c1;by_cases hn:0<n
  ·have g:Wz w4 w.heap.size _ (Surf ((nN:Int)) T):=⟨n,H,zalq a (by omega),⟨fun D=>absurd D (by omega),fun D=>absurd (f.2 ((W.out.1 D).2.2.2.1)) (by omega)⟩,by omega⟩;have J:=M.trans (c.mono M.size);obtain⟨A7,L,rfl,q⟩:=zaeq a;obtain⟨d,C,R⟩:=zz3 a g f;clear a g f;go_wp2_with fail;go_ret;exact⟨⟨_,rfl,C.out⟩,J⟩
  obtain rfl:n=0:=by omega
  have bl:=f.1 rfl;obtain⟨A7,L,rfl,q⟩:=zaeq a;clear f hn;obtain⟨d,c6⟩:=zz2 a bl;clear a bl;go_wp2_with fail;go_loopw[3,6] (fun l i wr=>∃(u n:Nat) (H:List Value),u<=nN/\i=.int .i64 u/\wr.ownsRow w0.heap.size 200 3 l n H/\(n=0↔∀t:Nat,t<u->∃i,i<T.length/\haB (Zac T i) t=true)/\n<=u/\Below w0.heap.size w0 wr) (fun _ i _=>nN-(intOf i).toNat)
  case atStart=>exact⟨0,0,H,by omega,rfl,d.out,⟨fun _ i hi=>by omega,fun _=>rfl⟩,by omega,c⟩
  case round =>
   clear P Q c cq q;obtain⟨u,n,H,hu,rfl,a,f,aj,c⟩:=hrel;obtain⟨w5,cn⟩:∃w5,w5=wr:=⟨_,rfl⟩;subst cn;have c2:=c.size;have P:=(c.cell (p:=⟨w.heap.size,0,none⟩) K).trans c0;have Q:=(c.cell (p:=⟨w.heap.size,1,none⟩) K).trans c1;by_cases d5:u<nN
   ·obtain⟨d,R⟩:=zz2 a f;clear a f;go_wp2_with fail;go_loopw[7,8] (fun bv jv wr=>∃(m:Nat) (bd:Bool),m<=T.length/\jv=.int .i64 m/\bv=.bool bd/\(bd=true↔∃i,i<m/\haB (Zac T i) u=true)/\Below w5.heap.size w5 wr) (fun _ j _=>T.length-(intOf j).toNat)
    case atStart=>exact⟨0,false,by omega,rfl,rfl,⟨fun h=>(by cases h),fun⟨i,hi,_⟩=>by omega⟩,zr _ _⟩
    case round =>
     clear P Q;obtain⟨m,bd,hm,rfl,rfl,V,Y⟩:=hrel;have E:=c.trans (Y.mono c2);have b9:=Y.size;have P:=(E.cell (p:=⟨w.heap.size,0,none⟩) K).trans c0;have Q:=(E.cell (p:=⟨w.heap.size,1,none⟩) K).trans c1;have r:=zafq d.out Y zl;by_cases br:m<T.length
     ·have s:∀b2:Bool,(b2=true↔bd=true\/haB (Zac T m) u=true)->(b2=true↔∃i,i<m+1/\haB (Zac T i) u=true):=fun b2 h2=>by
       rw[h2,V];constructor
       ·rintro(⟨i,hi,h⟩|h)
        ·exact⟨i,by omega,h⟩
        ·exact⟨m,by omega,h⟩
       ·rintro⟨i,hi,h⟩;by_cases ci:i=m
        ·rw[<- ci];exact .inr h
        ·exact .inl ⟨i,by omega,h⟩
      cases bd with
      | true =>
       have D:=s true (by simp);obtain⟨y,ak,O,av⟩:=zz4 r V s D;clear r V s D;go_wp2_with fail;exact⟨⟨m+1,true,by omega,by simp,rfl,av.out,Y⟩,by simp[intOf];omega⟩
      | false =>
       obtain⟨b,o,rfl,hb,a1,a2,a3⟩:=(a5.out.below zaaq (E.mono aa)).tri_at br;rw[Zd4 br]at a1 a2 a3;have b6:=Zm0 (Zac T m) u;generalize Zac T m=x at *;obtain⟨x1,x2,x3⟩:=x;simp only[triV]at a1 a2 a3 b6;generalize haB (x1,x2,x3) u=bq at *;obtain⟨y,ak,O,c8⟩:=zz4 r V s b6;clear r V s b6;go_wp2_with fail;refine(c8.out _).mono ?_;rintro e w6 ⟨rfl,U⟩;have D:=O.out bq (by simp);have ce:=Y.trans (U.mono b9);have av:=zz D;clear D;go_wp2_with fail;exact⟨⟨m+1,bq,by omega,by simp,rfl,av.out,ce⟩,by simp[intOf];omega⟩
     ·obtain rfl:m=T.length:=by omega
      have s:∀n3:Nat,(n3=0↔n=0/\bd=true)->(n3=0↔∀t:Nat,t<u+1->∃i,i<T.length/\haB (Zac T i) t=true):=fun n3 h3=>by
       rw[h3,R.out,V];constructor
       ·rintro⟨X,h5⟩ t a7;by_cases b7:t=u
        ·rw[b7];exact h5
        ·exact X t (by omega)
       ·exact fun X=>⟨fun t a7=>X t (by omega),X u (by omega)⟩
      have ba:=E.size;cases bd with
      | true =>
       have F:=s n (by simp);obtain⟨y,ak,O,I⟩:=zz4 r V s F;clear r V s F;go_wp2_with fail;exact⟨⟨u+1,n,H,by omega,by simp,y.out,I.out,by omega,E⟩,by simp[intOf];omega⟩
      | false =>
       have F:=s (n+1) (by simp);obtain⟨y,ak,O,I⟩:=zz4 r V s F;clear r V s F;go_wp2_with(at_builtin;refine zajq _ rfl (.tmp 93) (.tmp 96) 183 rfl w0.heap.size Zl0 Tryz.underlying183 rfl (by decide) _ n H rfl (y.out.alloc _) wr.heap.size [.int .i64 5,.int .i64 u,.int .i64 0] rfl (Bk.new _ _ _) rfl (by simp[Value.oneCell']) (by omega) (by omega) (by simp;omega) ?_;intro v1 w8 Z b5 _ _;have a6:=zz Z;clear Z);exact⟨⟨u+1,n+1,_,by omega,by simp,a6.out,I.out,by omega,(E.alloc ba _).trans b5⟩,by simp[intOf];omega⟩
   obtain rfl:u=nN:=by omega
   by_cases hn:0<n
   ·have g:Wz w5 w.heap.size _ (Surf ((u:Int)) T):=⟨n,H,zalq a (by omega),⟨fun D=>absurd D (by omega),fun D=>absurd (f.2 (fun t a7=>(W.out.1 D).2.2.2.2.1 t (by omega))) (by omega)⟩,by omega⟩;have J:=M.trans (c.mono M.size);obtain⟨A7,L,rfl,q⟩:=zaeq a;obtain⟨d,C,R⟩:=zz3 a g f;clear a g f;go_wp2_with fail;go_ret;exact⟨⟨_,rfl,C.out⟩,J⟩
   obtain rfl:n=0:=by omega
   have bm:G5 (u:Int) T:=fun t a7=>f.1 rfl t (by omega)
   obtain⟨A7,L,rfl,q⟩:=zaeq a;clear f hn;obtain⟨d,c7⟩:=zz2 a bm;clear a bm;go_wp2_with fail;go_loopw[3,9] (fun l i wr=>∃(z n:Nat) (H:List Value),z<=u/\i=.int .i64 z/\wr.ownsRow w0.heap.size 200 3 l n H/\(n=0↔∀t:Nat,t<z->T.filter (haB · (t:Int))=[]\/Cn (T.filter (haB · (t:Int))) t)/\n<=z/\Below w0.heap.size w0 wr) (fun _ i _=>u-(intOf i).toNat)
   case atStart=>exact⟨0,0,H,by omega,rfl,d.out,⟨fun _ i hi=>by omega,fun _=>rfl⟩,by omega,c⟩
   case round =>
    clear P Q c c2 q;obtain⟨z,n,H,hz,rfl,a,f,aj,c⟩:=hrel;obtain⟨w6,co⟩:∃w6,w6=wr:=⟨_,rfl⟩;subst co;have b9:=c.size;have P:=(c.cell (p:=⟨w.heap.size,0,none⟩) K).trans c0;have Q:=(c.cell (p:=⟨w.heap.size,1,none⟩) K).trans c1;by_cases d6:z<u
    ·have s:∀n3:Nat,(n3=0↔n=0/\(T.filter (haB · (z:Int))=[]\/Cn (T.filter (haB · (z:Int))) z))->(n3=0↔∀t:Nat,t<z+1->T.filter (haB · (t:Int))=[]\/Cn (T.filter (haB · (t:Int))) t):=fun n3 h3=>by
      rw[h3,f];constructor
      ·rintro⟨X,h5⟩ t a7;by_cases b7:t=z
       ·rw[b7];exact h5
       ·exact X t (by omega)
      ·exact fun X=>⟨fun t a7=>X t (by omega),X z (by omega)⟩
     have bx:=cc.out z w6 (a5.out.below zaaq (c.mono aa)) (by omega);generalize (T.filter (haB · (z:Int))=[]\/Cn (T.filter (haB · (z:Int))) z)=G at *;obtain⟨d,R,O,cd⟩:=zz4 a f s bx;clear a f s bx;go_wp2_with fail;refine cd.out.mono ?_;rintro e w7 ⟨⟨bq,rfl,hq⟩,U⟩;have E:=c.trans (U.mono b9);have ba:=E.size;have r:=zafq d.out U zl;cases bq with
     | false =>
      have F:=O.out n ⟨fun h=>⟨h,hq.1 rfl⟩,fun h=>h.1⟩;obtain⟨y,cf,I⟩:=zz3 r hq F;clear r hq F;go_wp2_with fail;exact⟨⟨z+1,n,H,by omega,by simp,y.out,I.out,by omega,E⟩,by simp[intOf];omega⟩
     | true =>
      have F:=O.out (n+1) ⟨fun h=>by omega,fun h=>by have:=hq.2 h.2;cases this⟩;obtain⟨y,cf,I⟩:=zz3 r hq F;clear r hq F;go_wp2_with(at_builtin;refine zajq _ rfl (.tmp 111) (.tmp 114) 183 rfl w0.heap.size Zl0 Tryz.underlying183 rfl (by decide) _ n H rfl (y.out.alloc _) w7.heap.size [.int .i64 6,.int .i64 z,.int .i64 0] rfl (Bk.new _ _ _) rfl (by simp[Value.oneCell']) (by omega) (by omega) (by simp;omega) ?_;intro v1 w8 Z b5 _ _;have a6:=zz Z;clear Z);exact⟨⟨z+1,n+1,_,by omega,by simp,a6.out,I.out,by omega,(E.alloc ba _).trans b5⟩,by simp[intOf];omega⟩
    obtain rfl:z=u:=by omega
    have g:Wz w6 w.heap.size _ (Surf (z:Int) T):=⟨n,H,zalq a (by omega),f.trans ⟨fun D=>W.out.2 ⟨c3.out,c4.out,c5.out,c6.out,c7.out,fun t a7=>D t (by omega)⟩,fun D t a7=>(W.out.1 D).2.2.2.2.2 t (by omega)⟩,by omega⟩;have J:=M.trans (c.mono M.size);obtain⟨A7,L,rfl,q⟩:=zaeq a;obtain⟨d,C,R⟩:=zz3 a g f;clear a g f;go_wp2_with fail;go_ret;exact⟨⟨_,rfl,C.out⟩,J⟩
theorem Ze9(sv:Value)(N:Int)(T:List T3)(w:World){B:Nat}(hB0:B<=w.heap.size)(hT:Sl 3 RTri w B sv T)(hfew:T.length<=200) :
  Calls Tryz.prog 126 #[.agg #[.int .i64 N,sv]] w fun e w'=>Ztg e (Surf N T)/\Below w.heap.size w w':=by
 obtain⟨A,b,rfl,C⟩:=hT.form;have i:=Bk.new w 24 [.int .i64 N,.slice A T.length b];have g:=(zr w.heap.size w).alloc zl (.cells #[.int .i64 N,.slice A T.length b] 24);have f:=hT.below zaaq (g.mono hB0);have s:B<=(w.alloc (.cells #[.int .i64 N,.slice A T.length b] 24)).heap.size:=by rw[World.size_alloc];omega
 have o:=all9_calls (.slice A T.length b) N T _ s f hfew;have u:=g.size;obtain⟨D,y,v,p⟩:=zz4 hT f i o;clear hT f i o;go_enter Tryz.func126,Tryz.ntmps126;go_wp2_with fail;refine p.out.mono ?_;rintro e H ⟨⟨G,rfl,n,I,a,c,E⟩,q⟩;have j:=g.trans (q.mono u);obtain⟨F,z,rfl,x⟩:=zaeq a;by_cases k:n=0
 ·have l:=c.1 k;have t:((n:Int)==0)=true:=by rw[k];rfl
  clear k;obtain⟨m,r,d⟩:=zz3 a c l;clear a c l;go_wp2_with fail;go_ret;exact⟨⟨true,rfl,⟨fun _=>d.out,fun _=>rfl⟩⟩,j⟩
 ·have l:¬Surf N T:=fun h=>k (c.2 h)
  have t:((n:Int)==0)=false:=by rw[beq_eq_false_iff_ne];omega
  clear k;obtain⟨m,r,d⟩:=zz3 a c l;clear a c l;go_wp2_with fail;go_ret;exact⟨⟨false,rfl,⟨fun h=>(by cases h),fun h=>absurd h d.out⟩⟩,j⟩
end Go.Proofs.YtpbdcppaiafbgaaGreat
namespace Go.Mesh
def bord(T:List T3):List Nat:=(List.range (3*T.length)).filter fun c=>(opp T c).isNone
def bedges(T:List T3):List (Int×Int):=(bord T).map (eg T)
def aftV(T:List T3)(v:Int):Option Int:=((bedges T).find? fun e=>e.2==v).map (·.1)
def bf(T:List T3)(u:Nat):Option Nat:=(aftV T (u:Int)).map Int.toNat
def Zah(T:List T3)(N v:Int):List Nat:=if(aftV T v).isSome then runF (bf T) v.toNat N.toNat v.toNat else[]
section
variable {N : Int} {T : List T3}
theorem mem_bord{c:Nat}:c∈bord T↔c<3*T.length/\opp T c=none:=by
 unfold bord;rw[zQ,zR,Option.isNone_iff_eq_none]
theorem Zqi(T:List T3):(bord T).Nodup:=List.nodup_range.sublist List.filter_sublist
theorem Zhe(T:List T3):(bord T).length<=3*T.length:=by
 have:=List.length_filter_le (fun c=>(opp T c).isNone) (List.range (3*T.length))
 rwa [List.length_range]at this
theorem mem_bedges{e:Int×Int}:e∈bedges T↔∃c,c<3*T.length/\opp T c=none/\eg T c=e:=by
 unfold bedges;rw[zB];constructor
 ·rintro⟨c,b,a⟩;exact⟨c,(mem_bord.1 b).1,(mem_bord.1 b).2,a⟩
 ·rintro⟨c,d,f,a⟩;exact⟨c,mem_bord.2 ⟨d,f⟩,a⟩
theorem aft_none{c:Nat}:aft T c=none↔opp T (nx c)=none:=by unfold aft;rw[Option.map_eq_none_iff]
theorem bef_none{c:Nat}:bef T c=none↔opp T (pv c)=none:=by unfold bef;rw[Option.map_eq_none_iff]
theorem Surf.ring_at(h:Surf N T){c:Nat}(hc:c<3*T.length):0<(Zad T N (vt T c)).length/\Ring T (vt T c) (Zad T N (vt T c)) (Zae T N (vt T c)):=by
 rcases h.ring_or (vt T c)with⟨_,b,_⟩|⟨a,_,d⟩
 ·exact absurd (h.rng c hc) b
 ·exact⟨a,d⟩
theorem Surf.last_at(h:Surf N T){c:Nat}(hc:c<3*T.length)(ha:aft T c=none):(Zad T N (vt T c))[(Zad T N (vt T c)).length-1]? = some c/\Zae T N (vt T c)=false:=by
 obtain⟨k,d⟩:=h.ring_at hc;obtain⟨b,e⟩:=d.run;obtain⟨i,hi,a⟩:=zE ((d.mem c).2 ⟨hc,rfl⟩);have j:i+1=(Zad T N (vt T c)).length:=by
  rcases zK (i+1) (Zad T N (vt T c)).length with f|f
  ·have:=e.steps i f;rw[a,ha]at this;cases this
  ·omega
 have g:(Zad T N (vt T c))[(Zad T N (vt T c)).length-1]'(by omega)=c:=by
  refine Eq.trans ?_ a
  congr 1
  omega
 refine⟨by rw[zG (by omega),g],(d.last k).1 (by rw[g];exact ha)⟩
theorem Surf.first_at(h:Surf N T){c:Nat}(hc:c<3*T.length)(ha:bef T c=none):(Zad T N (vt T c))[0]? = some c/\Zae T N (vt T c)=false:=by
 obtain⟨f,e⟩:=h.ring_at hc;obtain⟨b,d⟩:=e.run;obtain⟨i,hi,a⟩:=zE ((e.mem c).2 ⟨hc,rfl⟩);have g:i=0:=by
  cases i with
  | zero=>rfl
  | succ i =>
   have:=h.aft_bef (d.lt _ (zM (by omega))) (d.steps i hi);rw[a,ha]at this;cases this
 subst g;refine⟨by rw[zG f,a],(e.head f).1 (by rw[a];exact ha)⟩
theorem Surf.edge_out(h:Surf N T){c d:Nat}(hc:c<3*T.length)(hd:d<3*T.length)(oc:opp T c=none)(od:opp T d=none)(hv:vt T (pv c)=vt T (pv d)):c=d:=by
 have a:=(h.last_at (Zaj hc) (aft_none.2 (by rw[Zcf];exact oc))).1;have b:=(h.last_at (Zaj hd) (aft_none.2 (by rw[Zcf];exact od))).1;rw[hv,b]at a;exact(Zr4 (zO a)).symm
theorem Surf.edge_in(h:Surf N T){c d:Nat}(hc:c<3*T.length)(hd:d<3*T.length)(oc:opp T c=none)(od:opp T d=none)(hv:vt T (nx c)=vt T (nx d)):c=d:=by
 have a:=(h.first_at (Zam hc) (bef_none.2 (by rw[Ze2];exact oc))).1;have b:=(h.first_at (Zam hd) (bef_none.2 (by rw[Ze2];exact od))).1;rw[hv,b]at a;exact(Zvi (zO a)).symm
theorem Surf.edges_at(h:Surf N T){v:Int}(hv:0<=v/\v<N)(hi:Zae T N v=false):(∃c,c<3*T.length/\opp T c=none/\vt T (pv c)=v)/\∃c,c<3*T.length/\opp T c=none/\vt T (nx c)=v:=by
 rcases h.ring_or v with⟨_,b,_⟩|⟨d,_,a⟩
 ·exact absurd hv b
 ·have g:=(a.last d).2 hi;have b:=(a.head d).2 hi;have e:=(a.mem _).1 (zM (l:=Zad T N v) (n:=(Zad T N v).length-1) (by omega));have f:=(a.mem _).1 (zM d);exact⟨⟨_,Zam e.1,aft_none.1 g,by rw[Ze2];exact e.2⟩,⟨_,Zaj f.1,bef_none.1 b,by rw[Zcf];exact f.2⟩⟩
theorem Surf.out_in(h:Surf N T){c:Nat}(hc:c<3*T.length)(oc:opp T c=none):∃d,d<3*T.length/\opp T d=none/\vt T (pv d)=vt T (nx c) :=
 (h.edges_at (h.rng _ (Zam hc)) (h.first_at (Zam hc) (bef_none.2 (by rw[Ze2];exact oc))).2).1
theorem Surf.aftV_iff(h:Surf N T){v a:Int}:aftV T v=some a↔∃c,c<3*T.length/\opp T c=none/\vt T (pv c)=v/\vt T (nx c)=a:=by
 unfold aftV;rw[Option.map_eq_some_iff];constructor
 ·rintro⟨e,i,rfl⟩;obtain⟨c,b,f,rfl⟩:=mem_bedges.1 (List.mem_of_find?_eq_some i);have:=List.find?_some i;exact⟨c,b,f,by simpa[eg]using this,rfl⟩
 ·rintro⟨c,b,f,rfl,rfl⟩;have m:eg T c∈bedges T:=mem_bedges.2 ⟨c,b,f,rfl⟩;cases g:(bedges T).find? fun e=>e.2==vt T (pv c)with
  | none =>
   have:=List.find?_eq_none.1 g _ m;simp[eg]at this
  | some e =>
   obtain⟨d,j,k,rfl⟩:=mem_bedges.1 (List.mem_of_find?_eq_some g);have l:vt T (pv d)=vt T (pv c):=by simpa[eg]using List.find?_some g
   rw[h.edge_out j b k f l];exact⟨_,rfl,rfl⟩
theorem Surf.aftV_rng(h:Surf N T){v a:Int}(ha:aftV T v=some a):(0<=v/\v<N)/\0<=a/\a<N:=by
 obtain⟨c,b,_,rfl,rfl⟩:=h.aftV_iff.1 ha;exact⟨h.rng _ (Zaj b),h.rng _ (Zam b)⟩
theorem Surf.aftV_inj(h:Surf N T){v w a:Int}(h1:aftV T v=some a)(h2:aftV T w=some a):v=w:=by
 obtain⟨c,b,e,rfl,f⟩:=h.aftV_iff.1 h1;obtain⟨d,g,i,rfl,j⟩:=h.aftV_iff.1 h2;rw[h.edge_in b g e i (f.trans j.symm)]
theorem Surf.aftV_on(h:Surf N T){v a:Int}(ha:aftV T v=some a):∃b,aftV T a=some b:=by
 obtain⟨c,i,j,rfl,rfl⟩:=h.aftV_iff.1 ha;obtain⟨d,e,f,g⟩:=h.out_in i j;exact⟨_,h.aftV_iff.2 ⟨d,e,f,g,rfl⟩⟩
theorem Surf.aftV_inner(h:Surf N T){v:Int}(hv:0<=v/\v<N):Zae T N v=(aftV T v).isNone:=by
 cases hi:Zae T N v with
 | false =>
  obtain⟨c,b,d,e⟩:=(h.edges_at hv hi).1;rw[h.aftV_iff.2 ⟨c,b,d,e,rfl⟩];rfl
 | true =>
  cases f:aftV T v with
  | none=>rfl
  | some a =>
   obtain⟨c,b,d,rfl,rfl⟩:=h.aftV_iff.1 f;have:=(h.last_at (Zaj b) (aft_none.2 (by rw[Zcf];exact d))).2;rw[hi]at this;cases this
theorem Surf.bf_iff(h:Surf N T){u x:Nat}:bf T u=some x↔aftV T (u:Int)=some (x:Int):=by
 unfold bf;rw[Option.map_eq_some_iff];constructor
 ·rintro⟨a,b,rfl⟩;have:=(h.aftV_rng b).2;rw[b,Int.toNat_of_nonneg this.1]
 ·intro b;exact⟨_,b,by simp⟩
theorem Surf.loop_run(h:Surf N T){u x:Nat}(hx:bf T u=some x):IsRun (bf T) u N.toNat (runF (bf T) u N.toNat u) :=
 run_is (fun c d x h1 h2=>by
  have:=h.aftV_inj (h.bf_iff.1 h1) (h.bf_iff.1 h2);omega) (fun c d hcd=>by have:=(h.aftV_rng (h.bf_iff.1 hcd)).2;omega) (by have:=(h.aftV_rng (h.bf_iff.1 hx)).1;omega)
theorem Surf.loop_all(h:Surf N T){u x:Nat}(hx:bf T u=some x):(∀c∈runF (bf T) u N.toNat u,∃d,bf T c=some d)/\∃hl:0<(runF (bf T) u N.toNat u).length,bf T ((runF (bf T) u N.toNat u)[(runF (bf T) u N.toNat u).length-1]'(by omega))=some u:=by
 have e:=h.loop_run hx;have a:∀c∈runF (bf T) u N.toNat u,∃d,bf T c=some d:=e.all (fun c=>∃d,bf T c=some d) ⟨x,hx⟩ fun c d _ _ hcd=>by
  obtain⟨b,g⟩:=h.aftV_on (h.bf_iff.1 hcd);have:=(h.aftV_rng g).2;exact⟨b.toNat,h.bf_iff.2 (by rw[g,Int.toNat_of_nonneg this.1])⟩
 refine⟨a,e.ne,?_⟩;have j:(runF (bf T) u N.toNat u)[(runF (bf T) u N.toNat u).length-1]'(by have:=e.ne;omega)∈runF (bf T) u N.toNat u:=zM _;obtain⟨d,i⟩:=a _ j;rcases e.last with f|f
 ·rw[f]at i;cases i
 ·exact f
end
def pvals:List (Int×Int)->List Value
 | []=>[]
 | e::l=>.int .i64 e.1 :: .int .i64 e.2::pvals l
theorem Zjy:∀(l:List (Int×Int)) (e:Int×Int),pvals (l++[e])=pvals l++[.int .i64 e.1,.int .i64 e.2]
 | [],_=>rfl
 | x::l,e=>by simp only[List.cons_append,pvals,Zjy l e]
theorem pvals_at:∀(l:List (Int×Int)) (i:Nat) (t:Int×Int),l[i]? = some t->((pvals l).drop (i*2)).take 2=[.int .i64 t.1,.int .i64 t.2]
 | [],i,t,h=>by simp at h
 | x::l,0,t,h=>by
  have:x=t:=by simpa using h
  subst this;simp[pvals]
 | x::l,i+1,t,h=>by
  have a:=pvals_at l i t (by simpa using h);rw[show(i+1)*2=i*2+1+1 by omega];simp only[pvals,List.drop_succ_cons];exact a
def bpre(T:List T3)(k:Nat):List (Int×Int):=((List.range k).filter fun c=>(opp T c).isNone).map (eg T)
theorem bpre_all(T:List T3):bpre T (3*T.length)=bedges T:=rfl
theorem bpre_step(T:List T3)(k:Nat):bpre T (k+1)=bpre T k++(if opp T k=none then[eg T k]else[]):=by
 unfold bpre;rw[List.range_succ,List.filter_append,List.map_append]
 congr 1
 simp only[List.filter_cons,List.filter_nil,Option.isNone_iff_eq_none]
 split<;>rfl
theorem bpre_len(T:List T3)(k:Nat):(bpre T k).length<=k:=by
 unfold bpre;rw[zL];have:=List.length_filter_le (fun c=>(opp T c).isNone) (List.range k)
 rwa [List.length_range]at this
end Go.Mesh
namespace Go.Proofs.YtpbdcppaiafbgaaGreat
open Go Go.RowKit Go.Words Go.Mesh
theorem Zdr{w:World}{base:Nat}{v:Value}{l:List (Int×Int)}(h:w.ownsRow base 39 2 v l.length (pvals l)):Sl 2 Zaz w w.heap.size v l :=
 Sl.of_own h fun i a hi=>pvals_at l i a hi
theorem Zuu:(Tryz.prog.info? 39).map (fun i=>(i.zero,i.size,i.bytes))=some (some (.agg #[.int .i64 0,.int .i64 0]),2,16):=by kernel_rfl
theorem tab_triangles{w:World}{B:Nat}{tv:Value}{N:Int}{T:List T3}(h:Tab w B tv N T):Calls Tryz.prog 84 #[tv] w fun e w'=>e=.returned (.int .i64 T.length)/\w'=w:=by
 obtain⟨g,vt,b,c,m,F,rfl,a,_⟩:=h;exact Zmr a
theorem Zmo{w:World}{B:Nat}{tv:Value}{N:Int}{T:List T3}(h:Tab w B tv N T):Calls Tryz.prog 91 #[tv] w fun e w'=>e=.returned (.int .i64 N)/\w'=w:=by
 obtain⟨g,vt,b,c,m,F,rfl,a,_⟩:=h;exact Zn1 a
theorem tab_edge{w:World}{B:Nat}{tv:Value}{N:Int}{T:List T3}(h:Tab w B tv N T){c:Nat}(hc:c<3*T.length):Calls Tryz.prog 26 #[tv,.int .i64 (c:Int)] w fun e w'=>e=.returned (.agg #[.int .i64 (eg T c).1,.int .i64 (eg T c).2])/\Below w.heap.size w w':=by
 obtain⟨g,vt,b,d,m,F,rfl,a,_⟩:=h;have:=Zql a (c:Int);rw[tEdge_at hc]at this;exact this
theorem Zbc{w:World}{B:Nat}{tv:Value}{N:Int}{T:List T3}(h:TabN w B tv N T)(hs:Surf N T) :
  Calls Tryz.prog 31 #[tv] w fun e w'=>(∃r,e=.returned r/\w'.ownsRow w.heap.size 39 2 r (bedges T).length (pvals (bedges T)))/\Below w.heap.size w w':=by
 rcases h with h|⟨rfl,rfl,rfl,_⟩
 case inr =>
  go_enter Tryz.func31,Tryz.ntmps31;go_wp2_with fail;go_ret;exact⟨⟨_,rfl,zn _ _ _ _⟩,zr _ _⟩
 case inl =>
  have M:=h.le;have a9:=hs.tmax;obtain⟨g,rfl⟩:∃g,tv=.pointer (some ⟨g,0,none⟩):=by
   obtain⟨g,_,_,_,_,_,rfl,_⟩:=h;exact⟨_,rfl⟩
  have P:=tab_triangles h;have O:=fun wz (A:Tab wz B (.pointer (some ⟨g,0,none⟩)) N T) c (hc:c<3*T.length)=>tab_opp (.inl A) hs hc
  have J:=fun wz (A:Tab wz B (.pointer (some ⟨g,0,none⟩)) N T) c (hc:c<3*T.length)=>tab_edge A hc
  have F:=bpre_all T;obtain⟨W,a7,U,S,Q,G⟩:=zz6 h hs P O J F;clear h hs P O J F;go_enter Tryz.func31,Tryz.ntmps31;go_wp2_with fail;refine U.out.mono ?_;rintro e w ⟨rfl,rfl⟩;go_wp2_with fail;go_loopw[3,10] (fun l i wr=>∃k:Nat,k<=3*T.length/\i=.int .i64 k/\wr.ownsRow w.heap.size 39 2 l (bpre T k).length (pvals (bpre T k))/\Below w.heap.size w wr) (fun _ i _=>3*T.length-(intOf i).toNat)
  case atStart=>exact⟨0,by omega,rfl,zn _ _ _ _,zr _ _⟩
  case round =>
   obtain⟨k,hk,rfl,b,o⟩:=hrel;have A:=o.size;by_cases K:k<3*T.length
   ·have p:=W.out.below o M;have z:=S.out wr p k K;have a:=bpre_step T k;have a8:=bpre_len T k;generalize bpre T k=L at *;cases q:opp T k with
    | some d =>
     rw[q]at z a;rw[if_neg (by simp),List.append_nil]at a;have Z:¬(oi (some d)<0):=by simp[oi]
     generalize oi (some d)=x at *;obtain⟨f,H,C,n,R⟩:=zz5 b p z a q;clear b p z a q;go_wp2_with fail;refine C.out.mono ?_;rintro e w1 ⟨rfl,t⟩;have j:=zafq f.out t zl;have m:=zz j;clear j;go_wp2_with fail;exact⟨⟨k+1,by omega,by simp,by rw[n.out];exact m.out,o.trans (t.mono A)⟩,by simp[intOf];omega⟩
    | none =>
     rw[q]at z a;rw[if_pos rfl]at a;have Z:oi none<0:=by simp[oi]
     generalize oi none=x at *;obtain⟨f,H,C,n,R⟩:=zz5 b p z a q;clear b p z a q;go_wp2_with fail;refine C.out.mono ?_;rintro e w1 ⟨rfl,t⟩;have j:=zafq f.out t zl;have s:=o.trans (t.mono A);have a0:=s.size;have V:=Q.out w1 (W.out.below s M) k K;have a:=n.out;generalize eg T k=ed at *;obtain⟨x1,x2⟩:=ed;simp only[]at V;obtain⟨m,X,n⟩:=zz3 j V a;clear j V a;go_wp2_with fail;refine X.out.mono ?_;rintro e w2 ⟨rfl,I⟩;have v:=zafq m.out I zl;have u:=s.trans (I.mono a0);have a1:=u.size;have D:=zz v;clear v;go_wp2_with(at_builtin;refine zajq _ rfl (.tmp 17) (.tmp 21) 25 rfl w.heap.size Zuu Tryz.underlying25 rfl (by decide) _ L.length (pvals L) rfl (D.out.alloc _) w2.heap.size [.int .i64 x1,.int .i64 x2] rfl (Bk.new _ _ _) rfl (by simp[Value.oneCell']) (by omega) (by omega) (by simp;omega) ?_;intro v1 w5 y Y _ _;have E:=zz y;clear y);exact⟨⟨k+1,by omega,by simp,by rw[n.out,Zjy,zA];exact E.out,(u.alloc a1 _).trans Y⟩,by simp[intOf];omega⟩
   ·obtain rfl:k=3*T.length:=by omega
    rw[G.out]at b;have f:=zz b;clear b;go_wp2_with fail;go_ret;exact⟨⟨_,rfl,f.out⟩,o⟩
end Go.Proofs.YtpbdcppaiafbgaaGreat
namespace Go.Mesh
def bmap(L:List (Int×Int)):List (Int×Int):=L.foldl (fun m e=>Words.put m e.2 e.1) []
theorem bmap_snoc(L:List (Int×Int))(e:Int×Int):bmap (L++[e])=Words.put (bmap L) e.2 e.1:=by unfold bmap;rw[List.foldl_append];rfl
theorem bmap_look:∀(k:Nat) (L:List (Int×Int)),(L.map (·.2)).Nodup->k<=L.length->∀x,Words.look (bmap (L.take k)) x=((L.take k).find? fun e=>e.2==x).map (·.1)
 | 0,L,_,_,x=>by simp[bmap,Words.look]
 | k+1,L,hn,hk,x=>by
  have h:=bmap_look k L hn (by omega) x;rw[zT (by omega),bmap_snoc,Words.look_put,List.find?_append,h];by_cases b:(L[k]'(by omega)).2=x
  ·rw[if_pos b];have c:(L.take k).find? (fun e=>e.2==x)=none:=by
    rw[List.find?_eq_none];intro e g a;have a:e.2=x:=by simpa using a
    obtain⟨j,f,rfl⟩:=zE g;rw[List.getElem_take]at a;have i:j<k:=by rw[List.length_take]at f;omega
    have d:(L.map (·.2))[j]'(by rw[zL];omega)=(L.map (·.2))[k]'(by rw[zL];omega):=by
     rw[List.getElem_map,List.getElem_map,a,b]
    have:=(List.getElem_inj hn).1 d;omega
   rw[c];simp[b]
  ·rw[if_neg b];have:([L[k]'(by omega)]:List (Int×Int)).find? (fun e=>e.2==x)=none:=by simp[b]
   rw[this,Option.or_none]
theorem Surf.bedges_nodup{N:Int}{T:List T3}(h:Surf N T):((bedges T).map (·.2)).Nodup:=by
 unfold bedges;rw[List.map_map];exact zbiq (Zqi T) fun a ha b hb e=>h.edge_out (mem_bord.1 ha).1 (mem_bord.1 hb).1 (mem_bord.1 ha).2 (mem_bord.1 hb).2 e
theorem Surf.bmap_all{N:Int}{T:List T3}(h:Surf N T)(x:Int):Words.look (bmap (bedges T)) x=aftV T x:=by
 have:=bmap_look (bedges T).length (bedges T) h.bedges_nodup zl x;rw[List.take_length]at this;exact this
end Go.Mesh
namespace Go.Proofs.YtpbdcppaiafbgaaGreat
open Go Go.RowKit Go.Words Go.Mesh
theorem Zza{w:World}{B:Nat}{tv:Value}{N:Int}{T:List T3}(h:TabN w B tv N T)(hs:Surf N T) :
  Calls Tryz.prog 130 #[tv] w fun e w'=>(∃gm,e=.returned (.map (some gm))/\w.heap.size<=gm/\Mp enc1 I64 enc1 w' gm (bmap (bedges T)))/\Below w.heap.size w w':=by
 have E:Mp enc1 I64 enc1 (w.alloc (.map #[] 0)) w.heap.size (bmap []):=Mp.new w;have R:=(zr w.heap.size w).alloc zl (.map #[] 0);have Q:=Zbc (h.below R h.le) hs;have F:∀e∈bedges T,I64 e.1/\I64 e.2:=fun e Q=>by
  obtain⟨c,h1,_,rfl⟩:=mem_bedges.1 Q;have r1:=hs.rng _ (Zam h1);have r2:=hs.rng _ (Zaj h1);have:=hs.nmax;unfold I64 eg;simp only;omega
 have am:(bedges T).length<=24576:=by have:=Zhe T;have:=hs.tmax;unfold bedges;rw[zL];omega
 obtain⟨t,rfl⟩:=h.form;have av:(w.alloc (.map #[] 0)).heap.size=w.heap.size+1:=by simp
 generalize bedges T=L at *;generalize ac:w.alloc (.map #[] 0)=w0 at *;have aa:=@run_makeMap Tryz.prog;obtain⟨Hh,ap,K,a5,O⟩:=zz5 h hs E Q F;clear h hs E Q F;go_enter Tryz.func130,Tryz.ntmps130;go_wp2_with fail;clear ac aa;refine a5.out.mono ?_;rintro e w1 ⟨⟨r,rfl,f⟩,y⟩;obtain⟨A,x,rfl,ak⟩:=zaeq f;have aw:=y.size;have P:=R.trans (y.mono (by omega));have V:=K.out.below y (by omega);have n:=Zdr f;have n:Sl 2 Zaz w1 w1.heap.size (.slice A L.length x) L:=n;have m:∀j,some j=(Value.slice A L.length x).ownBlock->w0.heap.size<=j:=fun j hj=>(f.lt j hj.symm).1
 obtain⟨M,af,Y,a6⟩:=zz4 f n V m;clear f n V m;go_wp2_with fail;go_loopw[10] (fun i wr=>∃k:Nat,k<=L.length/\i=.int .i64 k/\Mp enc1 I64 enc1 wr w.heap.size (bmap (L.take k))/\Below w.heap.size w wr/\wr.ownsRow w0.heap.size 39 2 (.slice A L.length x) L.length (pvals L)) (fun i _=>L.length-(intOf i).toNat)
 case atStart=>exact⟨0,by omega,rfl,Y.out,P,M.out⟩
 case round =>
  obtain⟨k,hk,rfl,d,g,a⟩:=hrel;have hz:=g.size;have au:=d.lt;by_cases C:k<L.length
  ·obtain⟨b,o,rfl,hb,a1,a2⟩:=(Zdr a).pair_at C;have ar:b<wr.heap.size:=by omega
   have G:=zT C;have hr:=O.out _ (zM C);generalize L[k]=ed at *;obtain⟨H,I⟩:=ed;simp only[]at a1 a2;obtain⟨r1,r2⟩:=hr;have S:=g.alloc hz (.cells #[.int .i64 H,.int .i64 I] 39);have U:=d.alloc (.cells #[.int .i64 H,.int .i64 I] 39);have W:=a.alloc (.cells #[.int .i64 H,.int .i64 I] 39);have X:bmap (L.take (k+1))=put (bmap (L.take k)) I H:=by rw[G,bmap_snoc]
   obtain⟨s,v,ag,aq,a7,p,u,Z⟩:=zz8 d a G r1 r2 U W X;clear d a G r1 r2 U W X;go_wp2_with(at_mapUpdate;refine zbdq _ rfl _ _ _ 104 rfl 3 3 keyI Tryz.underlying104 w.heap.size (bmap (L.take k)) rfl p.out I rfl a7.out H rfl ?_;intro w2 D z a0;obtain⟨J,l⟩:=zz2 D z;clear D z;clear a0);have a9:=S.grown l.out S.size (fun q hq=>by cases hq;omega);refine⟨⟨k+1,by omega,by simp,by rw[Z.out];exact J.out,a9,u.out.kept l.out (.inr ?_)⟩,by simp[intOf];omega⟩;exact(p.out.no_row u.out).symm
  ·obtain rfl:k=L.length:=by omega
   rw[List.take_length]at d;obtain⟨s,v⟩:=zz2 d a;clear d a;go_wp2_with fail;go_ret;exact⟨⟨_,rfl,zl,s.out⟩,g⟩
end Go.Proofs.YtpbdcppaiafbgaaGreat
namespace Go.Words
open Go Go.RowKit Go.Maps Go.MapKept Go.ChangeMaps
section
variable {F : Fence} {nF : Nat} {P : Program} (w : World) {ops : Array Oper} {rest : List Oper} {o : Oper} {a : Act} {Q : Exit -> Act -> World -> Prop}
variable {κ α : Type} [DecidableEq κ] {enc : κ -> Value} {ok : κ -> Prop} {ev : α -> Value}
theorem Zle(hg:o.guard=none)(m x:Operand)(t:TypeId)(hop:o.op=Op.lookup t m x false)(k e:TypeId)(K:KeyT P k enc ok)(ht:P.underlying t=some (.map k e)){z:Value}(hz:∀w,(zeroValue e).run P w=.ok z w)
  (b:Nat) (l:List (κ×α)) (hm:a.eval m=.map (some b)) (hown:Mp enc ok ev w b l) (key:κ) (hx:a.eval x=enc key) (hkey:ok key)
  (hK:wpListIn F nF P ops Q rest (a.put o.dst (((look l key).map ev).getD z)) w):wpListIn F nF P ops Q (o::rest) a w:=by
 refine wpListIn_plain hg fun K' hK'=>?_
 have d:=hown.look_run K ht (hz w) hkey false;unfold Oper.wpIn;refine⟨by simp[Oper.about,hop],?_⟩;rw[Oper.semAt_plain F _ _ (by rw[hop];intro c f;cases f)];simp[execOp,hop,hm,hx,d,Result.andThen];exact hK' _ _ hK
theorem Zlh(hg:o.guard=none)(m x:Operand)(t:TypeId)(hop:o.op=Op.lookup t m x true)(k e:TypeId)(K:KeyT P k enc ok)(ht:P.underlying t=some (.map k e)){z:Value}(hz:∀w,(zeroValue e).run P w=.ok z w)
  (b:Nat) (l:List (κ×α)) (hm:a.eval m=.map (some b)) (hown:Mp enc ok ev w b l) (key:κ) (hx:a.eval x=enc key) (hkey:ok key)
  (hK:wpListIn F nF P ops Q rest (a.put o.dst (.tuple #[((look l key).map ev).getD z,.bool (look l key).isSome])) w):wpListIn F nF P ops Q (o::rest) a w:=by
 refine wpListIn_plain hg fun K' hK'=>?_
 have d:=hown.look_run K ht (hz w) hkey true;unfold Oper.wpIn;refine⟨by simp[Oper.about,hop],?_⟩;rw[Oper.semAt_plain F _ _ (by rw[hop];intro c f;cases f)];simp[execOp,hop,hm,hx,d,Result.andThen];exact hK' _ _ hK
theorem wpListIn_put(hg:o.guard=none)(m x v:Operand)(t:TypeId)(hop:o.op=Op.mapUpdate t m x v)(k e:TypeId)(K:KeyT P k enc ok)(ht:P.underlying t=some (.map k e))
  (b:Nat) (l:List (κ×α)) (hm:a.eval m=.map (some b)) (hown:Mp enc ok ev w b l) (key:κ) (hx:a.eval x=enc key) (hkey:ok key) (val:α) (hv:a.eval v=ev val)
  (hK:∀d,Mp enc ok ev d b (put l key val)->w.grownBy d (some b)->d.heap.size=w.heap.size->wpListIn F nF P ops Q rest (a.put o.dst undef) d):wpListIn F nF P ops Q (o::rest) a w:=by
 refine wpListIn_plain hg fun K' hK'=>?_
 obtain⟨d,f,h,i,j⟩:=hown.put_run K ht hkey val;unfold Oper.wpIn;refine⟨by simp[Oper.about,hop],?_⟩;rw[Oper.semAt_plain F _ _ (by rw[hop];intro c g;cases g)];simp[execOp,hop,hm,hx,hv,f,Result.andThen];exact hK' _ _ (hK d h i j)
end
end Go.Words
namespace Go.Mesh
section
variable {N : Int} {T : List T3}
theorem Zcl{v:Int}(h:aftV T v=none):Zah T N v=[]:=by unfold Zah;rw[h];rfl
def restOf(L:List Nat)(vn:Nat)(x:Int):Nat:=if x=(vn:Int)then 0 else L.length-L.idxOf x.toNat
structure BLoop (T : List T3) (N : Int) (v : Int) (L : List Nat) : Prop where
 ne:0<L.length
 head:(L[0]?:Option Nat)=some v.toNat
 nodup:L.Nodup
 lt:∀x∈L,(x:Int)<N
 step:∀(i x y:Nat),L[i]? = some x->L[i+1]? = some y->aftV T (x:Int)=some (y:Int)
 last:∀x:Nat,L[L.length-1]? = some x->aftV T (x:Int)=some v
theorem Surf.loop_is(h:Surf N T){v a:Int}(ha:aftV T v=some a):BLoop T N v (Zah T N v):=by
 have g:=h.aftV_rng ha;have e:Zah T N v=runF (bf T) v.toNat N.toNat v.toNat:=by unfold Zah;rw[ha];rfl
 have j:((v.toNat:Nat):Int)=v:=Int.toNat_of_nonneg g.1.1;have c:bf T v.toNat=some a.toNat:=h.bf_iff.2 (by rw[j,ha,Int.toNat_of_nonneg g.2.1]);have b:=h.loop_run c;obtain⟨_,l,d⟩:=h.loop_all c;rw[e];have f:∀x:Nat,(runF (bf T) v.toNat N.toNat v.toNat)[(runF (bf T) v.toNat N.toNat v.toNat).length-1]? = some x->bf T x=some v.toNat:=fun x c=>by
  obtain⟨_,rfl⟩:=zS.1 c;exact d
 clear d e;generalize runF (bf T) v.toNat N.toNat v.toNat=L at *;exact {
  ne:=b.ne
  head:=by rw[zG b.ne,b.head]
  nodup:=b.nodup
  lt:=fun x c=>by have:=b.lt x c;omega
  step:=fun i x y h1 h2=>by
   obtain⟨m,rfl⟩:=zS.1 h1;obtain⟨k,rfl⟩:=zS.1 h2;exact h.bf_iff.1 (b.steps i k)
  last:=fun x c=>by
   have:=h.bf_iff.1 (f x c);rw[j]at this;exact this }
end
end Go.Mesh
namespace Go.Proofs.YtpbdcppaiafbgaaGreat
open Go Go.RowKit Go.Words Go.Mesh
attribute [local go_sem] Oper.semAt_some
def Zy1(n₁ Bv:Nat)(W W':World):Prop:=W.heap.size<=W'.heap.size/\W'.cell? ⟨Bv,0,none⟩=W.cell? ⟨Bv,0,none⟩/\∀k o,n₁<=k->W.heap[k]? = some o->o.isWalk=true->W'.heap[k]? = some o
theorem keepM_t{n₁ Bv:Nat}{A B C:World}(h:Zy1 n₁ Bv A B)(k:Zy1 n₁ Bv B C):Zy1 n₁ Bv A C:=⟨Nat.le_trans h.1 k.1,k.2.1.trans h.2.1,fun i o hi ho hw=>k.2.2 i o hi (h.2.2 i o hi ho hw) hw⟩
theorem keepM_b{n₁ Bv:Nat}{w:World}(hBv:Bv<w.heap.size)(W:World)(l:Nat)(o o':Obj)(hl:w.heap.size<=l)(h:W.heap[l]? = some o)(_:o.isCells=false)(h2:o.isWalk=false):Zy1 n₁ Bv W (W.putObj l o'):=by
 refine⟨(grownBy_putObj' W l o').size,by unfold World.cell?;rw[World.putObj_heap_other (by simp only;omega)],fun k ob hk hob hw=>?_⟩;by_cases a:k=l
 ·subst a;rw[h]at hob;cases hob;rw[h2]at hw;cases hw
 ·rw[World.putObj_heap_other a];exact hob
theorem mp_keepM{κ α:Type}{enc:κ->Value}{ok:κ->Prop}{ev:α->Value}{W W':World}{n₁ Bv b:Nat}{l:List (κ×α)}(h:Mp enc ok ev W b l)(hk:Zy1 n₁ Bv W W')(hb:n₁<=b):Mp enc ok ev W' b l:=by
 refine h.keep ?_;obtain⟨d,c,a,e⟩:=h.block;rw[a];exact hk.2.2 b _ hb a rfl
theorem bwalk1_in(n:Nat)(hn:1<=n)(l Bt Bv n₁ B:Nat)(tv:Value)(N:Int)(T:List T3)(v:Int)(hv9:I64 v)(hs:Surf N T)(J Jx:List Nat->World->Prop)
  (hY:∀pre (x:Nat) W,x<4096->J pre W->pre.length<N.toNat->YieldAt Fence.wide (n-1) Tryz.prog l #[.int .i64 (x:Int)] W fun e W' =>
   (e=.returned (.bool true)/\J (pre++[x]) W'/\Zy1 n₁ Bv W W')\/(e=.returned (.bool false)/\Jx (pre++[x]) W'))
  (W:World) (hn1:n₁<=W.heap.size) (hBv:Bv<W.heap.size) (hJ:AbidesFrom W.heap.size J) (ht:W.cell? ⟨Bt,0,none⟩=some tv) (hv:W.cell? ⟨Bv,0,none⟩=some (.int .i64 v)) (htab:TabN W B tv N T) (h0:J [] W) :
  CallsIn Fence.wide n Tryz.prog 129 #[.func (.yield l) #[] #[],.pointer (some ⟨Bt,0,none⟩),.pointer (some ⟨Bv,0,none⟩)] W fun e W'=>(∃v,e=.returned v) /\
   ((∃ys:List Nat,ys=Zah T N v/\J ys W')\/(∃pre:List Nat,pre <+: Zah T N v/\Jx pre W')):=by
 have ax:=Zza htab hs;have A:=hs.bmap_all;have U:=fun a (ha:aftV T v=some a)=>hs.loop_is ha
 have a0:aftV T v=none->Zah T N v=[]:=Zcl;have H:=fun a (ha:aftV T v=some a)=>hs.aftV_rng ha
 obtain⟨t,rfl⟩:=htab.form;refine callsIn_of_wp Tryz.func129 rfl trivial ?_ rfl;simp only[Tryz.ntmps129,List.size_toArray,List.length_cons,List.length_nil,Nat.reduceAdd,Nat.reduceSub,Array.replicate_succ,Array.replicate_zero,List.push_toArray,List.append_toArray,List.nil_append,List.cons_append];generalize bmap (bedges T)=m at *;generalize Zah T N v=L at *;have g:=A v;obtain⟨b9,a7,a8,ae,a1,c0,au,bl,a9⟩:=zz9 ax A U a0 H htab hY hJ g;clear ax A U a0 H htab hY hJ g;gi_wp2_with fail;refine⟨trivial,(callsIn_wide.2 b9.out).mono ?_⟩;rintro e w1 ⟨⟨gm,rfl,ay,Y⟩,aj⟩;have bq:=(aj.cell (p:=⟨Bv,0,none⟩) hBv).trans hv;have F:=Zrj bl.out h0 aj;have co:=aj.size;cases c:aftV T v with
 | none =>
  have az:=ae.out c;have g:=a9.out;rw[c]at g;obtain⟨u,a4,ba,a6⟩:=zz4 Y F az c;clear Y F az c;gi_wp2_with (refine Zlh _ rfl _ _ 104 rfl 3 3 keyI Tryz.underlying104 Zcp gm m rfl u.out v rfl hv9 ?_;rw[g,show(((none:Option Int).map enc1).getD (.int .i64 0))=.int .i64 0 from rfl,show(none:Option Int).isSome=false from rfl]);refine⟨fun f h=>(by cases h),?_⟩;gi_wp2_with fail;refine bodyPost_ret (results_none rfl _ _ _) rfl ?_;exact⟨⟨_,rfl⟩,.inl ⟨[],ba.out.symm,a4.out⟩⟩
 | some a =>
  have q:=a8.out a c;have I:=a1.out a c;have g:=a9.out;rw[c]at g;obtain⟨b,rfl⟩:∃b:Nat,v=(b:Int):=⟨v.toNat,by have:=I.1;omega⟩;obtain⟨an,rfl⟩:∃an:Nat,a=(an:Int):=⟨a.toNat,by have:=I.2;omega⟩;have cd:L.length<=N.toNat:=Zfw _ _ q.nodup fun x j=>by have:=q.lt x j;omega
  have k:=q.ne;have ak:=q.head;rw[zC]at ak;obtain⟨fn,ch,bo,ca,hy,hR⟩:=au.out [] b w1 (by have:=I.1;have:=hs.nmax;omega) F (by simp;omega);obtain⟨u,a4,a6,d,c8,bm,s⟩:=zz7 Y F c q I hR ak;clear Y F c q I hR ak;gi_wp2_with (refine Zlh _ rfl _ _ 104 rfl 3 3 keyI Tryz.underlying104 Zcp gm m rfl u.out (b:Int) rfl hv9 ?_;rw[g,show(((some (an:Int)).map enc1).getD (.int .i64 0))=.int .i64 (an:Int)from rfl]);refine bm.out.mono ?_;rintro e W2 (⟨rfl,P,ao⟩|⟨rfl,bg⟩)
  case inr =>
   gi_wp2_with fail;refine bodyPost_ret (results_none rfl _ _ _) rfl ?_;refine⟨⟨_,rfl⟩,.inr ⟨[b],?_,bg⟩⟩;have w:=s.out;obtain⟨x,L',bu⟩:∃x L',L=x::L':=by
    cases L with
    | nil=>simp at k
    | cons x L'=>exact⟨x,L',rfl⟩
   rw[bu]at w ⊢;have:x=b:=by simpa using w
   rw[this];exact⟨L',rfl⟩
  case inl =>
   have b0:=mp_keepM u.out ao (Nat.le_trans hn1 ay);have br:=ao.2.1.trans bq;have bw:=ao.1;have P:J (L.take 1) W2:=by
    have w:=s.out;rw[zT k];have:L[0]=b:=by
     rw[zG k]at w;exact zO w
    rw[this];exact P
   have C:∀i,1<=i->i<=L.length->∃x:Nat,(L++[b])[i]? = some x/\(i<L.length->L[i]? = some x/\x≠b)/\(i=L.length->x=b):=fun i h1 h2=>by
    by_cases hi:i<L.length
    ·obtain⟨x,j⟩:∃x,L[i]? = some x:=⟨_,zG hi⟩;refine⟨x,by rw[List.getElem?_append_left hi];exact j,fun _=>⟨j,fun e=>?_⟩,fun h=>by omega⟩;have w:=s.out;obtain⟨g1,g2⟩:=zS.1 j;obtain⟨g3,g4⟩:=zS.1 w;have:=(List.getElem_inj d.out.nodup).1 (g2.trans (e.trans g4.symm));omega
    ·have:i=L.length:=by omega
     subst this;exact⟨b,by simp,fun h=>absurd h hi,fun _=>rfl⟩
   have D:∀i (x y:Nat),(L++[b])[i]? = some x->i<L.length->(L++[b])[i+1]? = some y->aftV T (x:Int)=some (y:Int):=fun i x y j hi hy=>by
    rw[List.getElem?_append_left hi]at j;by_cases am:i+1<L.length
    ·rw[List.getElem?_append_left am]at hy;exact d.out.step i x y j hy
    ·have:i+1=L.length:=by omega
     rw[this]at hy;have:y=b:=by simpa using hy.symm
     rw[this];exact d.out.last x (by rw[<- j];congr 1;omega)
   have aw:(L++[b])[1]? = some an:=by
    obtain⟨x,j,_⟩:=C 1 (by omega) (by omega);have:=D 0 b x (by rw[List.getElem?_append_left k];exact s.out) k j;rw[a6.out]at this;rw[j]
    congr 1
    have:=zO this;omega
   obtain⟨b5,bc,E,af,b8⟩:=zz5 P b0 C D aw;clear P b0 C D aw;gi_wp2_with fail;gi_loopw [5] (fun x wr=>∃i y:Nat,1<=i/\i<=L.length/\x=.int .i64 (y:Int)/\(L++[b])[i]? = some y/\J (L.take i) wr/\Mp enc1 I64 enc1 wr gm m/\wr.cell? ⟨Bv,0,none⟩=some (.int .i64 (b:Int))/\w1.heap.size<=wr.heap.size) (fun x _=>restOf L b (intOf x))
   case atStart=>exact⟨1,an,by omega,by omega,rfl,b8.out,b5.out,bc.out,br,bw⟩
   case round =>
    obtain⟨i,y,am,hi,rfl,r,o,Z,bt,ce⟩:=hrel;obtain⟨y',b3,V,R⟩:=E.out i am hi;rw[r]at b3;obtain rfl:=zO b3;by_cases S:i<L.length
    case neg =>
     have S:i=L.length:=by omega
     subst S;obtain rfl:=R rfl;rw[List.take_length]at o;obtain⟨c7,c6,a5,ad,bd⟩:=zz5 V R o Z r;clear V R o Z r;gi_wp2_with fail;go_end0;exact⟨⟨_,rfl⟩,.inl a5.out⟩
    case pos =>
     obtain⟨Q,ck⟩:=V S;have bi:(y:Int)≠(b:Int):=by omega
     obtain⟨g1,g2⟩:=zS.1 Q;have b2:L.take (i+1)=L.take i++[y]:=by rw[zT g1,g2]
     have K:L.idxOf y=i:=by rw[<- g2];exact d.out.nodup.idxOf_getElem i g1
     have cm:=d.out.lt y (List.mem_of_getElem? Q);have bv:I64 (y:Int):=by
      have:=hs.nmax;unfold I64;omega
     obtain⟨z,hz,O,M⟩:=E.out (i+1) (by omega) (by omega);have G:=a7.out (y:Int);rw[af.out i y z r S hz]at G;have X:restOf L b (z:Int)<restOf L b (y:Int):=by
      unfold restOf;rw[if_neg bi,zC,zC,K];by_cases b4:(z:Int)=(b:Int)
      ·rw[if_pos b4];omega
      ·rw[if_neg b4];by_cases w:i+1<L.length
       ·obtain⟨h8,_⟩:=O w;obtain⟨k1,k2⟩:=zS.1 h8;have:L.idxOf z=i+1:=by rw[<- k2];exact d.out.nodup.idxOf_getElem (i+1) k1
        omega
       ·have:=M (by omega);omega
     obtain⟨cj,c4,bk,c3,cn,av⟩:=au.out (L.take i) y wr (by have:=hs.nmax;omega) o (by rw[List.length_take];omega);clear V R;obtain⟨a5,ad,bd,c5,ag,bz,bb,ac,bn,c2,c1,b7⟩:=zz12 o Z r Q b2 K G X hz O M av;have ci:=zz g2;clear o Z r Q b2 K G X hz O M av g2;gi_wp2_with fail;refine b7.out.mono ?_;rintro e W3 (⟨rfl,ai,ap⟩|⟨rfl,bh⟩)
     case inr =>
      gi_wp2_with fail;refine bodyPost_ret (results_none rfl _ _ _) rfl ?_;refine⟨⟨_,rfl⟩,.inr ⟨L.take i++[y],?_,bh⟩⟩;rw[<- ag.out];exact List.take_prefix _ _
     case inl =>
      have b1:=mp_keepM ad.out ap (Nat.le_trans hn1 ay);have bs:=ap.2.1.trans bt;have cp:=ap.1;rw[<- ag.out]at ai;have G:=bb.out;obtain⟨b6,aa⟩:=zz2 ai b1;clear ai b1;gi_wp2_with (refine Zle _ rfl _ _ 104 rfl 3 3 keyI Tryz.underlying104 Zcp gm m rfl aa.out (y:Int) rfl bv ?_;rw[G,show(((some (z:Int)).map enc1).getD (.int .i64 0))=.int .i64 (z:Int)from rfl]);refine⟨⟨i+1,z,by omega,by omega,rfl,bn.out,b6.out,aa.out,bs,by omega⟩,?_⟩;exact ac.out
open Go Go.RowKit Go.Words Go.Mesh
attribute [local go_sem] Oper.semAt_some
theorem Zn7(n:Nat)(hn:1<=n)(Bt Bv B:Nat)(tv:Value)(N:Int)(T:List T3)(v:Int)(hv9:I64 v)(hs:Surf N T)(w:World)(hBt:Bt<w.heap.size)(hBv:Bv<w.heap.size)
  (ht:w.cell? ⟨Bt,0,none⟩=some tv) (hv:w.cell? ⟨Bv,0,none⟩=some (.int .i64 v)) (htab:TabN w B tv N T) :
  SeqStopsK Fence.wide n Tryz.prog 129 #[.pointer (some ⟨Bt,0,none⟩),.pointer (some ⟨Bv,0,none⟩)] (fun x:Nat=>#[Value.int .i64 (x:Int)]) (Zy1 w.heap.size Bv) (fun ys=>ys=Zah T N v) (fun pre=>pre <+: Zah T N v) N.toNat w:=fun l J Jx W hW hJ _ hY h0 =>
 bwalk1_in n hn l Bt Bv w.heap.size B tv N T v hv9 hs J Jx (fun pre x W _=>hY pre x W) W hW.size (Nat.lt_of_lt_of_le hBv hW.size) hJ ((hW.cell (p:=⟨Bt,0,none⟩) hBt).trans ht) ((hW.cell (p:=⟨Bv,0,none⟩) hBv).trans hv) (htab.below hW htab.le) h0
abbrev Vx:={ u:Nat // u<4096 }
theorem bwalk_stopsV(n:Nat)(hn:1<=n)(Bt Bv B:Nat)(tv:Value)(N:Int)(T:List T3)(v:Int)(hv9:I64 v)(hs:Surf N T)(w:World)(hBt:Bt<w.heap.size)(hBv:Bv<w.heap.size)
  (ht:w.cell? ⟨Bt,0,none⟩=some tv) (hv:w.cell? ⟨Bv,0,none⟩=some (.int .i64 v)) (htab:TabN w B tv N T) :
  SeqStopsK Fence.wide n Tryz.prog 129 #[.pointer (some ⟨Bt,0,none⟩),.pointer (some ⟨Bv,0,none⟩)] (fun x:Vx=>#[Value.int .i64 (x.1:Int)]) (Zy1 w.heap.size Bv) (fun k=>k.map (·.1)=Zah T N v) (fun b=>b.map (·.1) <+: Zah T N v) N.toNat w:=fun l J Jx W hW hJ _ hY h0=>by
 refine(bwalk1_in n hn l Bt Bv w.heap.size B tv N T v hv9 hs (fun b W=>∃a:List Vx,a.map (·.1)=b/\J a W) (fun b W=>∃a:List Vx,a.map (·.1)=b/\Jx a W) (fun b x W hx ⟨a,h1,h2⟩ hl=>?_) W hW.size (Nat.lt_of_lt_of_le hBv hW.size) (fun s A B row ⟨a,h1,h2⟩ hg hr=>⟨a,h1,hJ a A B row h2 hg hr⟩) ((hW.cell (p:=⟨Bt,0,none⟩) hBt).trans ht) ((hW.cell (p:=⟨Bv,0,none⟩) hBv).trans hv) (htab.below hW htab.le) ⟨[],rfl,h0⟩).mono ?_
 ·obtain⟨fn,j,f,h,q,o⟩:=hY a ⟨x,hx⟩ W h2 (by rw[<- h1,zL]at hl;exact hl);refine⟨fn,j,f,h,q,o.mono ?_⟩;rintro e m (⟨d,c,g⟩|⟨d,c⟩)
  ·exact .inl ⟨d,⟨_,by rw[List.map_append,h1];rfl,c⟩,g⟩
  ·exact .inr ⟨d,⟨_,by rw[List.map_append,h1];rfl,c⟩⟩
 ·rintro e m ⟨d,(⟨k,c,a,g,i⟩|⟨b,c,a,g,i⟩)⟩
  ·exact⟨d,.inl ⟨a,g.trans c,i⟩⟩
  ·exact⟨d,.inr ⟨a,by show a.map (·.1) <+: _;rw[g];exact c,i⟩⟩
theorem Zh2(tv:Value)(v:Int)(w:World)(ha:tv.oneCell'=true):Calls Tryz.prog 93 #[tv,.int .i64 v] w fun e w' =>
  e=.returned (.func (.func 129) #[] #[.pointer (some ⟨w.heap.size,0,none⟩),.pointer (some ⟨w.heap.size+1,0,none⟩)]) /\
  w'=(w.alloc (.cells #[tv] 46)).alloc (.cells #[.int .i64 v] 3):=by
 go_enter Tryz.func93,Tryz.ntmps93;go_wp2;go_ret;exact⟨rfl,rfl⟩
theorem loop_le{N:Int}{T:List T3}(hs:Surf N T)(v:Int):(Zah T N v).length<=4096:=by
 cases b:aftV T v with
 | none=>rw[Zcl b];simp
 | some a =>
  have h:=hs.loop_is b;have:=Zfw N.toNat _ h.nodup fun x hx=>by have:=h.lt x hx;omega
  have:=hs.nmax;omega
theorem keepM_of{n₁ Bv:Nat}{W W':World}(ho:KeepsOthers W W')(hc:W'.cell? ⟨Bv,0,none⟩=W.cell? ⟨Bv,0,none⟩):Zy1 n₁ Bv W W':=⟨ho.size,hc,fun k o _ h1 h2=>ho.same k o h1 (by cases o<;>first|rfl|cases h2)⟩
open Go Go.RowKit Go.Words Go.Mesh
attribute [local go_sem] Oper.semAt_some
theorem appseq_calls{w:World}{B Bt Bv:Nat}{tv:Value}{N:Int}{T:List T3}(h:TabN w B tv N T)(hs:Surf N T)(v:Int)(hv9:I64 v)(hBt:Bt<w.heap.size)(hBv:Bv<w.heap.size)(ht:w.cell? ⟨Bt,0,none⟩=some tv)(u:w.cell? ⟨Bv,0,none⟩=some (.int .i64 v)) :
  Calls Tryz.prog 128 #[.slice none 0 0,.func (.func 129) #[] #[.pointer (some ⟨Bt,0,none⟩),.pointer (some ⟨Bv,0,none⟩)]] w fun e w'=>(∃r,e=.returned r/\w'.ownsRow w.heap.size 3 1 r (Zah T N v).length (nvals (Zah T N v)))/\Below w.heap.size w w':=by
 refine(callsIn_wide (n:=6)).1 ?_;refine callsIn_of_wp_marks Tryz.func128 rfl trivial ?_ rfl;simp only[Tryz.ntmps128,List.size_toArray,List.length_cons,List.length_nil,Nat.reduceAdd,Nat.reduceSub,Array.replicate_succ,Array.replicate_zero,List.push_toArray,List.append_toArray,List.nil_append,List.cons_append];obtain⟨t,rfl⟩:=h.form;have aa:=loop_le hs v;gi_wp2_with fail;obtain⟨b,j⟩:∃b,b=w.heap.size:=⟨_,rfl⟩;rw[<- j];obtain⟨d,k⟩:∃d,d=w.alloc (.cells #[.slice none 0 0] 28):=⟨_,rfl⟩;have m:Below w.heap.size w d:=by
  rw[k];exact(zr _ w).alloc zl _
 have b1:Boxed d b 28 (.slice none 0 0):=by rw[k];exact zawq j _ _
 have U:d.cell? ⟨Bt,0,none⟩=some (.pointer t):=(m.cell (p:=⟨Bt,0,none⟩) hBt).trans ht;have V:d.cell? ⟨Bv,0,none⟩=some (.int .i64 v):=(m.cell (p:=⟨Bv,0,none⟩) hBv).trans u;have S:d.heap.size=b+1:=by rw[k];simp[j]
 rw[<- k];clear k;have P:=h.le;have f:b<=d.heap.size/\Bt<d.heap.size/\Bv<d.heap.size/\B<=b/\b+1<=d.heap.size/\Bv<b:=by omega
 clear S P;have J:=h.below m h.le;obtain⟨g,Hh⟩:=zz2 j h;clear j h;refine wpIn_rangeFunc_ownF rfl (by decide) (gf:=129) (lb:=#[.pointer (some ⟨Bt,0,none⟩),.pointer (some ⟨Bv,0,none⟩)]) rfl trivial (enters_of Tryz.func129 (by kernel_rfl) rfl)
  (Zn7 5 (by decide) Bt Bv B (.pointer t) N T v hv9 hs d f.2.1 f.2.2.1 U V J) keepM_t (keepM_b f.2.2.1) (zr _ _) (fun _=>rfl)
  (fun a W=>(∃G,Boxed W b 28 G/\W.ownsRow (b+1) 3 1 G a.length (nvals a)/\True)/\Below b w W/\b+1<=W.heap.size)
  (fun _ _ _=>False)
  ?hI ?hIx ?h0
  (fun x=>{ tmps:=#[.slice none 0 0,.func (.func 129) #[] #[.pointer (some ⟨Bt,0,none⟩),.pointer (some ⟨Bv,0,none⟩)],.pointer (some ⟨b,0,none⟩),undef,.slice none 0 0,.int .i64 (x:Int),.func (.func 129) #[] #[.pointer (some ⟨Bt,0,none⟩),.pointer (some ⟨Bv,0,none⟩)],.int .i64 (x:Int),undef,undef,undef,undef,undef],defers:=[] }) ?assign ?body ?done ?stop
 case hI =>
  refine OwnFrom.and (Own.from (holdsRow_own (b+1) b _ _ 1 (fun a:List Nat=>a.length) (fun a:List Nat=>nvals a) (fun _ _=>True)) _) (OwnFrom.and (ownFrom_below (by rw[g.out];exact zl) f.1) ?_);exact fun _ A C row hs hg _=>Nat.le_trans hs hg.size
 case hIx=>exact fun _ _ _ _ _ h _ _=>h
 case h0 =>
  exact⟨⟨_,b1,zn _ _ _ _,trivial⟩,by rw[g.out];exact m,f.2.2.2.2.1⟩
 case assign =>
  intro l x W K s;gi_wp2;exact s
 case body =>
  rintro l a x W ⟨⟨G,u,i,-⟩,o,z⟩ hN;obtain⟨i0,hi,Z,a0,a1⟩:=info_parts Zg6;have hc:=u.cell;have ad:=hs.nmax;have ac:a.length+1<=maxLen:=by unfold maxLen;omega
  gi_wp2_with (gi_at_builtin;refine wpListIn_append_own _ rfl _ _ 28 rfl (b+1) 3 i0 (.int .i64 0) 1 8 Tryz.underlying28 hi Z a0 a1 rfl (by decide) _ _ _ rfl (i.alloc _) ⟨W.heap.size,0,none⟩ 1 1 [.int .i64 (x:Int)] rfl rfl (cell_one_new _ _ _) (by simp[Value.oneCell']) (by omega) (by omega) (by have:=o.size;simp;omega) ?_;intro v' w1 q F _;obtain⟨L,y,rfl⟩:=ownsRow_succ q;obtain⟨I,X,Q,E,O,a4⟩:=Zci u (by omega) i z q F;have a8:=I.cell;have a9:=I.frozen);have R:(w1.setCell ⟨b,0,none⟩ (.slice (some ⟨L,0,none⟩) (a.length+1) y)).ownsRow (b+1) 3 1 (.slice (some ⟨L,0,none⟩) (a.length+1) y) (a++[x]).length (nvals (a++[x])):=by simpa[nvals]using Q
  have H:=O b zl;exact⟨E,keepM_of E (H.cell (p:=⟨Bv,0,none⟩) f.2.2.2.2.2),⟨⟨_,X,R,trivial⟩,o.trans H,Nat.le_trans z E.size⟩⟩
 case done =>
  rintro D ys W M Y ⟨⟨G,u,i,-⟩,o,z⟩ s;have hc:=u.cell;gi_wp2;refine⟨by simp,.inl ⟨_,_,rfl,run_takeDeferred s,?_⟩⟩;refine⟨_,results_tmp rfl _ _ _,⟨_,rfl,?_⟩,?_⟩
  ·rw[<- Y,<- g.out];exact ownsRow_putObj (zalq i (by omega)) _ s rfl
  ·rw[<- g.out];exact o.trans (belowK_b (w:=d) f.1 W D _ _ M s rfl rfl)
 case stop =>
  rintro D c a W M a5 h s;exact h.elim
theorem Zzj{w:World}{B Bt Bv:Nat}{tv:Value}{N:Int}{T:List T3}(h:TabN w B tv N T)(hs:Surf N T)(v:Int)(hv9:I64 v)(hBt:Bt<w.heap.size)(hBv:Bv<w.heap.size)(ht:w.cell? ⟨Bt,0,none⟩=some tv)(hv:w.cell? ⟨Bv,0,none⟩=some (.int .i64 v)) :
  Calls Tryz.prog 92 #[.func (.func 129) #[] #[.pointer (some ⟨Bt,0,none⟩),.pointer (some ⟨Bv,0,none⟩)]] w fun e w'=>(∃r,e=.returned r/\w'.ownsRow w.heap.size 3 1 r (Zah T N v).length (nvals (Zah T N v)))/\Below w.heap.size w w':=by
 have c:=appseq_calls h hs v hv9 hBt hBv ht hv;obtain⟨d,i,g⟩:=zz3 c h hs;clear c h hs;go_enter Tryz.func92,Tryz.ntmps92;go_wp2_with fail;refine d.out.mono ?_;rintro e j ⟨⟨r,rfl,a⟩,f⟩;have b:=zz a;clear a;go_wp2_with fail;go_ret;exact⟨⟨_,rfl,b.out⟩,f⟩
end Go.Proofs.YtpbdcppaiafbgaaGreat
namespace Go.Words
open Go Go.RowKit
variable {F : Fence} {n : Nat} {P : Program}
def mark(D:Nat):Deferred:={ target:=.collected D,args:=#[] }
theorem mark_inj:∀(A B:List Nat),A.map mark=B.map mark->A=B
 | [],[],_=>rfl
 | [],b::B,h=>by simp at h
 | a::A,[],h=>by simp at h
 | a::A,b::B,h=>by
  simp only[List.map_cons,List.cons.injEq]at h;obtain⟨c,d⟩:=h;have:a=b:=by
   unfold mark at c;injection c with c;injection c
  rw[this,mark_inj A B d]
def Marks(w:World)(base:Nat)(ds:List Deferred):Prop:=∃Ds:List Nat,ds=Ds.map mark/\Ds.Nodup/\∀D∈Ds,base<=D/\w.heap[D]? = some (.deferred (some []))
theorem Marks.nil(w:World)(base:Nat):Marks w base []:=⟨[],rfl,List.nodup_nil,fun _ h=>by cases h⟩
theorem Marks.keep{w w':World}{base:Nat}{ds:List Deferred}(h:Marks w base ds)(hk:∀k,base<=k->w.heap[k]? = some (.deferred (some []))->w'.heap[k]? = some (.deferred (some []))):Marks w' base ds:=by
 obtain⟨b,c,d,a⟩:=h;exact⟨b,c,d,fun D hD=>⟨(a D hD).1,hk D (a D hD).1 (a D hD).2⟩⟩
theorem Marks.below{w w':World}{base:Nat}{ds:List Deferred}(h:Marks w base ds)(hb:Below w.heap.size w w'):Marks w' base ds :=
 h.keep fun k _ hk=>(hb.block k (Array.getElem?_eq_some_iff.1 hk).1).trans hk
theorem Marks.grown{w w':World}{base:Nat}{ds:List Deferred}{row:Option Nat}(h:Marks w base ds)(hg:w.grownBy w' row)(hr:∀r,row=some r->w.heap[r]? ≠ some (.deferred (some []))):Marks w' base ds :=
 h.keep fun k _ hk=>(hg.block k (Array.getElem?_eq_some_iff.1 hk).1 fun e=>hr k e.symm hk).trans hk
theorem Marks.cons{w:World}{base D:Nat}{ds:List Deferred}(h:Marks w base ds)(hD:base<=D)(hK:w.heap[D]? = some (.deferred (some [])))(hnew:∀a:List Nat,ds=a.map mark->D ∉ a):Marks w base (mark D::ds):=by
 obtain⟨a,rfl,c,d⟩:=h;refine⟨D::a,rfl,List.nodup_cons.2 ⟨hnew a rfl,c⟩,fun E b=>?_⟩;rcases List.mem_cons.1 b with rfl|b
 ·exact⟨hD,hK⟩
 ·exact d E b
theorem Marks.fresh{w:World}{base D:Nat}{ds:List Deferred}(h:Marks w base ds)(hD:w.heap.size<=D):∀a:List Nat,ds=a.map mark->D ∉ a:=by
 intro a e f;obtain⟨b,c,_,d⟩:=h;obtain rfl:b=a:=mark_inj b a (c.symm.trans e);have:=(Array.getElem?_eq_some_iff.1 (d D f).2).1;omega
theorem leaves_marks{fn:Func}{tmps:Array Value}{R:Ending->World->Prop}(base:Nat)(Inv:World->Prop)
  (hstep:∀W D,base<=D->Inv W->W.heap[D]? = some (.deferred (some []))->Inv (W.putObj D (.deferred none))) (hend:∀W,Inv W->LeavesInM F n P fn tmps R [] .returning W) :
  ∀(a:List Deferred) (w:World),Marks w base a->Inv w->LeavesInM F n P fn tmps R a .returning w:=by
 intro a w ⟨d,g,b,c⟩ hi;subst g
 induction d generalizing w with
 | nil=>exact hend w hi
 | cons D d ih =>
  obtain⟨h,f⟩:=c D List.mem_cons_self;rw[List.nodup_cons]at b;refine⟨by simp,.inl ⟨D,_,rfl,run_takeDeferred f,?_⟩⟩;refine ih _ b.2 (fun E hE=>⟨(c E (List.mem_cons_of_mem _ hE)).1,?_⟩) (hstep w D h hi f);rw[World.putObj_heap_other (fun e:E=D=>b.1 (e ▸ hE))];exact(c E (List.mem_cons_of_mem _ hE)).2
end Go.Words
namespace Go.Mesh
def lps(T:List T3)(N:Int):Nat->List (List Nat)
 | 0=>[]
 | k+1=>lps T N k++(if(k∈(lps T N k).flatten)\/Zah T N k=[]then[]else[Zah T N k])
theorem Zec(T:List T3)(N:Int):∀k,(lps T N k).length<=k
 | 0=>by simp[lps]
 | k+1=>by
  have:=Zec T N k;unfold lps;rw[zA]
  split<;>simp<;>omega
end Go.Mesh
namespace Go.Proofs.YtpbdcppaiafbgaaGreat
open Go Go.RowKit Go.Words Go.Mesh
attribute [local go_sem] Oper.semAt_some
def OwnRows(w:World)(base:Nat)(r:Value)(Ls:List (List Nat)):Prop:=∃vs:List Value,vs.length=Ls.length/\w.ownsRow base 28 1 r Ls.length vs/\∀(i:Nat) (v:Value) (L:List Nat),vs[i]? = some v->Ls[i]? = some L->w.ownsRow base 3 1 v L.length (nvals L)
theorem infoRow:(Tryz.prog.info? 28).map (fun i=>(i.zero,i.size,i.bytes))=some (some (.slice none 0 0),1,24):=by kernel_rfl
def LpsAt(w:World)(T:List T3)(nN B g:Nat)(r:Value)(k:Nat)(wr:World):Prop:=k<=nN/\OwnRows wr (w.heap.size+2) r (lps T nN k) /\
 (∃lm:List (Int×Unit),Mp enc1 I64 (fun _:Unit=>.bool true) wr w.heap.size lm/\∀x:Nat,(Words.look lm (x:Int)).isSome=true↔x∈(lps T nN k).flatten) /\
 Boxed wr (w.heap.size+1) 85 (.map (some w.heap.size))/\Below w.heap.size w wr/\Tab wr B (.pointer (some ⟨g,0,none⟩)) nN T/\w.heap.size+2<=wr.heap.size
theorem Za7{w:World}{B:Nat}{tv:Value}{N:Int}{T:List T3}(h:TabN w B tv N T)(hs:Surf N T) :
  Calls Tryz.prog 45 #[tv] w fun e w'=>(∃r,e=.returned r/\OwnRows w' w.heap.size r (lps T N N.toNat))/\Below w.heap.size w w':=by
 rcases h with h|⟨rfl,rfl,rfl,_⟩
 case inr =>
  go_enter Tryz.func45,Tryz.ntmps45;go_wp2_with fail;go_ret;exact⟨⟨_,rfl,[],rfl,zn _ _ _ _,fun i v L h=>by simp at h⟩,zr _ _⟩
 case inl =>
  have cd:=h.le;obtain⟨g,rfl⟩:∃g,tv=.pointer (some ⟨g,0,none⟩):=by
   obtain⟨g,_,_,_,_,_,rfl,_⟩:=h;exact⟨_,rfl⟩
  obtain⟨b,rfl⟩:∃b:Nat,N=(b:Int):=⟨N.toNat,by have:=hs.n0;omega⟩;have e7:=hs.nmax;rw[zC];refine(callsIn_wide (n:=9)).1 ?_;refine callsIn_of_wp_marks Tryz.func45 rfl trivial ?_ rfl;simp only[Tryz.ntmps45,List.size_toArray,List.length_cons,List.length_nil,Nat.reduceAdd,Nat.reduceSub,Array.replicate_succ,Array.replicate_zero,List.push_toArray,List.append_toArray,List.nil_append,List.cons_append];have de:=@run_makeMap Tryz.prog;have cg:=fun wz (hz:Tab wz B (.pointer (some ⟨g,0,none⟩)) b T)=>Zmo hz
  obtain⟨cy,Hh⟩:=zz2 cg h;clear cg h;gi_wp2_with fail;obtain⟨w0,a5⟩:∃w0,w0=(w.alloc (.map #[] 0)).alloc (.cells #[.map (some w.heap.size)] 85):=⟨_,rfl⟩;have c9:Below w.heap.size w w0:=by rw[a5];exact((zr _ w).alloc zl _).alloc (by simp) _
  have V:Mp enc1 I64 (fun _:Unit=>.bool true) w0 w.heap.size ([]:List (Int×Unit)):=by rw[a5];exact(Mp.new w).alloc _
  have H:Boxed w0 (w.heap.size+1) 85 (.map (some w.heap.size)):=by rw[a5];exact zawq (by simp) _ _
  have cf:w0.heap.size=w.heap.size+2:=by rw[a5];simp
  have A:=Hh.out.below c9 cd;rw[<- a5];clear a5 de;refine⟨trivial,(callsIn_wide.2 (cy.out _ A)).mono ?_⟩;rintro e w0 ⟨rfl,rfl⟩;gi_wp2_with fail;refine wpIn_loop (fun a wr=>∃(ds:List Deferred) (r u5 u6 u7 ch ci cj ck cm cn co cp cq cr cs ct cu bt bu bv bw bx bz c0 c1 c2 c3 c4:Value) (k:Nat) (kI:Int),kI=(k:Int)/\LpsAt w T b B g r k wr/\Marks wr (w.heap.size+2) ds/\a={ tmps:=#[.pointer (some ⟨g,0,none⟩),undef,.slice none 0 0,r,.pointer (some ⟨w.heap.size+1,0,none⟩),u5,u6,u7,.pointer (some ⟨g,0,none⟩),.bool false,.map (some w.heap.size),.pointer (some ⟨g,0,none⟩),.int .i64 b,.int .i64 kI,ch,ci,cj,ck,cm,cn,co,cp,cq,cr,cs,ct,cu,bt,bu,bv,bw,bx,bz,c0,c1,c2,c3,c4],defers:=ds }) (fun a _=>b-(intOf (a.tmps.getD 13 undef)).toNat) ?_ ?_
  ·exact⟨[],_,_,_,_,_,_,_,_,_,_,_,_,_,_,_,_,_,_,_,_,_,_,_,_,_,_,_,_,0,0,rfl,⟨by omega,⟨[],rfl,zn _ _ _ _,fun i v L h=>by simp at h⟩,⟨[],V,fun x=>by simp[Words.look,lps]⟩,H,c9,A,by omega⟩,Marks.nil _ _,rfl⟩
  ·rintro a wr ⟨ds,r,u5,u6,u7,ch,ci,cj,ck,cm,cn,co,cp,cq,cr,cs,ct,cu,bt,bu,bv,bw,bx,bz,c0,c1,c2,c3,c4,k,_,rfl,⟨hk,O,⟨lm,V,f⟩,H,b0,A,cf⟩,s,rfl⟩;by_cases en:k<b
   case neg =>
    obtain rfl:k=b:=by omega
    have em:=H.cell;obtain⟨vs,dg,a4,I⟩:=O;obtain⟨A9,bh,rfl,dw⟩:=zaeq a4;obtain⟨Q,J,a6,u,cx,a8,m⟩:=zz7 V f H A a4 I s;clear V f H A a4 I s;gi_wp2_with fail;refine leaves_marks (w.heap.size+2) (fun W=>OwnRows W (w.heap.size+2) (.slice A9 (lps T k k).length bh) (lps T k k)/\Below w.heap.size w W) ?_ ?_ ds wr m.out ⟨⟨vs,dg,cx.out,a8.out⟩,b0⟩
    ·rintro W D hD ⟨⟨vs,R,G,d⟩,h4⟩ hK;exact⟨⟨vs,R,ownsRow_putObj G _ hK rfl,fun i v L h5 h6=>ownsRow_putObj (d i v L h5 h6) _ hK rfl⟩,h4.trans (belowK_b (w:=w) zl W D _ _ (by omega) hK rfl rfl)⟩
    ·rintro W ⟨⟨vs,R,G,d⟩,h4⟩;exact⟨_,results_tmp rfl _ _ _,⟨_,rfl,⟨vs,R,zalq G (by omega),fun i v L h5 h6=>zalq (d i v L h5 h6) (by omega)⟩⟩,h4⟩
   case pos =>
    have hc:=H.cell;have b8:I64 (k:Int):=by unfold I64;omega
    by_cases I:k∈(lps T b k).flatten
    ·have bn:((Words.look lm (k:Int)).map (fun _:Unit=>Value.bool true)).getD (.bool false)=.bool true:=by
      obtain⟨y,hy⟩:=Option.isSome_iff_exists.1 ((f k).2 I);rw[hy];rfl
     have F:lps T b (k+1)=lps T b k:=by
      show lps T b k++_=_;rw[if_pos (.inl I),List.append_nil]
     obtain⟨Z,Q,J,a6,u,m,a8,a0⟩:=zz8 O V f H A s I F;clear O V f H A s I F;gi_wp2_with (refine Zle _ rfl _ _ 85 rfl 3 4 keyI Tryz.underlying85 Zbq w.heap.size lm rfl Q.out (k:Int) rfl b8 ?_;rw[bn]);refine⟨⟨ds,r,_,_,_,_,_,_,_,_,_,_,_,_,_,_,_,_,_,_,_,_,_,_,_,_,_,_,_,k+1,_,by simp,⟨by omega,by rw[a0.out];exact Z.out,⟨lm,Q.out,by rw[a0.out];exact J.out⟩,a6.out,b0,u.out,cf⟩,m.out,rfl⟩,?_⟩;show b-((k:Int)+1).toNat<b-((k:Int)).toNat;omega
    ·have bn:((Words.look lm (k:Int)).map (fun _:Unit=>Value.bool true)).getD (.bool false)=.bool false:=by
      cases hl:Words.look lm (k:Int)with
      | none=>rfl
      | some y=>exact absurd ((f k).1 (by rw[hl];rfl)) I
     obtain⟨Z,Q,J,a6,u,m,a8⟩:=zz7 O V f H A s I;clear O V f H A s I;gi_wp2_with (refine Zle _ rfl _ _ 85 rfl 3 4 keyI Tryz.underlying85 Zbq w.heap.size lm rfl Q.out (k:Int) rfl b8 ?_;rw[bn]);refine⟨trivial,(callsIn_wide.2 (Zh2 _ _ _ rfl)).mono ?_⟩;rintro e w1 ⟨rfl,av⟩;have ca:Below wr.heap.size wr w1:=by rw[av];exact((zr _ wr).alloc zl _).alloc (by simp) _
     have q1:w1.cell? ⟨wr.heap.size,0,none⟩=some (.pointer (some ⟨g,0,none⟩)):=by rw[av];exact((zawq rfl _ _).alloc _).cell
     have q2:w1.cell? ⟨wr.heap.size+1,0,none⟩=some (.int .i64 (k:Int)):=by rw[av];exact(zawq (by simp) _ _).cell
     have bs:w1.heap.size=wr.heap.size+2:=by rw[av];simp
     clear av;have ae:=u.out.below ca u.out.le;have cc:=Zzj (.inl ae) hs (k:Int) b8 (by omega) (by omega) q1 q2;have ec:wr.heap.size+2<=w1.heap.size:=by omega
     clear bs;obtain⟨cw,d9⟩:=zz2 cc ae;clear cc ae;gi_wp2_with fail;refine⟨trivial,(callsIn_wide.2 cw.out).mono ?_⟩;rintro e P ⟨⟨rl,rfl,ad⟩,cb⟩;have bi:Below wr.heap.size wr P:=ca.trans (cb.mono (by omega));obtain⟨Al,C,rfl,dx⟩:=zaeq ad;have ak:=zz ad;clear ad;gi_wp2_with fail;refine⟨trivial,(callsIn_wide.2 (Zh2 _ _ _ rfl)).mono ?_⟩;rintro e w3 ⟨rfl,aw⟩;have bj:Below P.heap.size P w3:=by rw[aw];exact((zr _ P).alloc zl _).alloc (by simp) _
     have q3:w3.cell? ⟨P.heap.size,0,none⟩=some (.pointer (some ⟨g,0,none⟩)):=by rw[aw];exact((zawq rfl _ _).alloc _).cell
     have q4:w3.cell? ⟨P.heap.size+1,0,none⟩=some (.int .i64 (k:Int)):=by rw[aw];exact(zawq (by simp) _ _).cell
     have eu:w3.heap.size=P.heap.size+2:=by rw[aw];simp
     clear aw;gi_wp2_with fail;have E:Below wr.heap.size wr w3:=bi.trans (bj.mono bi.size);have bo:=Q.out.below E (by omega);have d3:=(E.cell (p:=⟨w.heap.size+1,0,none⟩) (by show w.heap.size+1<_;omega)).trans hc;have ba:=u.out.below E u.out.le;have ev:=E.size;have et:=bi.size;have ed:=cb.size;have er:=hs.nmax;obtain⟨M,am⟩:=zz2 bo ba;clear bo ba;refine wpIn_rangeFunc_ownG rfl (by decide) (gf:=129) (lb:=#[.pointer (some ⟨P.heap.size,0,none⟩),.pointer (some ⟨P.heap.size+1,0,none⟩)]) rfl trivial (enters_of Tryz.func129 (by kernel_rfl) rfl)
      (bwalk_stopsV 8 (by decide) P.heap.size (P.heap.size+1) B (.pointer (some ⟨g,0,none⟩)) b T (k:Int) b8 hs w3 (by omega) (by omega) q3 q4 (.inl am.out)) keepM_t (keepM_b (by omega)) (zr _ _) (fun _=>rfl)
      (fun bb W=>(∃t:List (Int×Unit),Mp enc1 I64 (fun _:Unit=>.bool true) W w.heap.size t/\∀x:Nat,(Words.look t (x:Int)).isSome=true↔(x∈(lps T b k).flatten\/x∈bb.map (·.1)))/\w3.grownBy W (some w.heap.size))
      (fun _ _ _=>False)
      ?hI ?hIx ?h0
      (fun x=>{ tmps:=#[.pointer (some ⟨g,0,none⟩),undef,.slice none 0 0,r,.pointer (some ⟨w.heap.size+1,0,none⟩),.int .i64 (k:Int),(.slice Al (Zah T b k).length C),.int .i64 (x.1:Int),.pointer (some ⟨g,0,none⟩),.bool false,.map (some w.heap.size),.pointer (some ⟨g,0,none⟩),.int .i64 b,.int .i64 (k:Int),.bool true,.int .i64 (k:Int),.map (some w.heap.size),.int .i64 (k:Int),.bool false,.pointer (some ⟨g,0,none⟩),.int .i64 (k:Int),(.func (.func 129) #[] #[.pointer (some ⟨wr.heap.size,0,none⟩),.pointer (some ⟨wr.heap.size+1,0,none⟩)]),(.slice Al (Zah T b k).length C),.pointer (some ⟨g,0,none⟩),.int .i64 (k:Int),(.func (.func 129) #[] #[.pointer (some ⟨P.heap.size,0,none⟩),.pointer (some ⟨P.heap.size+1,0,none⟩)]),.int .i64 (x.1:Int),bt,bu,bv,bw,bx,bz,c0,c1,c2,c3,c4],defers:=[] }) ?assign ?body ?done ?stop
     case hI =>
      rintro bb W W' row ⟨⟨t,R,G⟩,d⟩ hg hr;have ce:∀q,row=some q->w3.heap.size<=q:=fun q e=>(hr q e).1
      refine⟨⟨t,R.grown hg (fun e=>by have:=ce _ e.symm;omega),G⟩,⟨hg.os.trans d.os,hg.tape.trans d.tape,hg.output.trans d.output,Nat.le_trans d.size hg.size,fun q hq hqn=>?_⟩⟩;exact(hg.block q (Nat.lt_of_lt_of_le hq d.size) (fun e=>by have:=ce q e.symm;omega)).trans (d.block q hq hqn)
     case hIx=>exact fun _ _ _ _ _ h _ _=>h
     case h0=>exact⟨⟨lm,M.out,fun x=>by rw[J.out];simp⟩,⟨rfl,rfl,rfl,zl,fun _ _ _=>rfl⟩⟩
     case assign =>
      intro l x W K hK;gi_wp2;exact hK
     case body =>
      rintro l bb x W ⟨⟨t,R,G⟩,d⟩ hN;have el:W.cell? ⟨w.heap.size+1,0,none⟩=some (.map (some w.heap.size)):=by
       rw[<- d3];unfold World.cell?;rw[d.block (w.heap.size+1) (by omega) (by simp)]
      have dh:I64 (x.1:Int):=by
       have:=x.2;unfold I64;omega
      obtain⟨ai,be,b5⟩:=zz3 R G d;clear R G d;gi_wp2_with (refine wpListIn_put _ rfl _ _ _ 85 rfl 3 4 keyI Tryz.underlying85 w.heap.size t rfl ai.out (x.1:Int) rfl dh () rfl ?_;intro w5 b1 z d6);refine⟨KeepsFrom.of_grownBy z (fun j e=>by cases e;omega),⟨z.size,?_,fun q o hq ho hw=>(z.block q (Array.getElem?_eq_some_iff.1 ho).1 (by simp;omega)).trans ho⟩,⟨put t (x.1:Int) (),b1,fun y=>?_⟩,?_⟩
      ·unfold World.cell?;have:=b5.out.size;rw[z.block (P.heap.size+1) (by omega) (by simp;omega)]
      ·rw[look_put,List.map_append,zP];by_cases br:(x.1:Int)=(y:Int)
       ·have:y=x.1:=by omega
        rw[if_pos br,this];simp
       ·rw[if_neg br,be.out y];have:y≠x.1:=fun e=>br (by rw[e])
        simp[this]
      ·have d:=b5.out;exact⟨z.os.trans d.os,z.tape.trans d.tape,z.output.trans d.output,Nat.le_trans d.size z.size,fun q hq hqn=>(z.block q (Nat.lt_of_lt_of_le hq d.size) hqn).trans (d.block q hq hqn)⟩
     case stop =>
      rintro D c bb W hD e8 h hK;exact h.elim
     case done =>
      rintro D ys W hD di ⟨⟨t,R,G⟩,d⟩ hK;rw[di]at G;have b7:Below w.heap.size w3 W:=(zr _ w3).grown d (by omega) (fun q e=>by cases e;omega);have b6:Below w.heap.size w W:=(b0.trans (E.mono (by omega))).trans b7;have Y:=am.out.below b7 cd;have aa:Boxed W (w.heap.size+1) 85 (.map (some w.heap.size)):=Boxed.kept (W:=w3) ((E.block (w.heap.size+1) (by omega)).trans a6.out) d (by simp);obtain⟨vs,v1,v2,v3⟩:=Z.out;have X:=(zafq (zafq (zafq ak.out (zr _ _) zl) bj zl) (zr _ _) zl).kept d (.inr (M.out.no_row (zafq ak.out bj zl)).symm);have ar:=(zafq v2 E zl).kept d (.inr (M.out.no_row (zafq v2 E zl)).symm);have au:∀(i:Nat) (v:Value) (L:List Nat),vs[i]? = some v->(lps T b k)[i]? = some L->W.ownsRow (w.heap.size+2) 3 1 v L.length (nvals L):=fun i v L e1 e2 =>
       (zafq (v3 i v L e1 e2) E zl).kept d (.inr (M.out.no_row (zafq (v3 i v L e1 e2) E zl)).symm)
      have S:=m.out.below E;have ac:=((S.grown d (fun q e h9=>by
       cases e;obtain⟨es,dv,g1,_⟩:=M.out.block;rw[g1]at h9;cases h9)).cons (D:=D) (by omega) hK (S.fresh hD))
      have ea:=d.size;generalize hL:Zah T b k=L at *;by_cases b9:L.length=0
      ·have U:L=[]:=List.length_eq_zero_iff.1 b9;have df:(L.length:Int)<=0:=by omega
       have F:lps T b (k+1)=lps T b k:=by
        show lps T b k++_=_;rw[if_pos (.inr (hL.trans U)),List.append_nil]
       have ao:∀x:Nat,(Words.look t (x:Int)).isSome=true↔x∈(lps T b (k+1)).flatten:=fun x=>by rw[G,F,U];simp
       have aq:OwnRows W (w.heap.size+2) r (lps T b (k+1)):=by rw[F];exact⟨vs,v1,ar,au⟩
       clear b9;obtain⟨a7,a1,aj,ay,bg,c6,a9,d8,cv,a0,ai,be⟩:=zz12 aa Y X ar au S ac hL U F R G;obtain⟨ax,b5,bc⟩:=zz3 ao d aq;clear aa Y X ar au S ac hL U F R G ao d aq;gi_wp2_with fail;refine⟨⟨Words.mark D::ds,r,_,_,_,_,_,_,_,_,_,_,_,_,_,_,_,_,_,_,_,_,_,_,_,_,_,_,_,k+1,(k:Int)+1,by simp,⟨by omega,bc.out,⟨t,ai.out,ax.out⟩,a7.out,b6,a1.out,by omega⟩,a9.out,rfl⟩,?_⟩;show b-((k:Int)+1).toNat<b-((k:Int)).toNat;omega
      ·have df:0<L.length:=by omega
       have U:L≠[]:=fun e=>b9 (by rw[e];rfl)
       have b2:k ∉ (lps T b k).flatten:=a8.out;have F:lps T b (k+1)=lps T b k++[L]:=by
        show lps T b k++_=_;rw[if_neg (fun h=>h.elim b2 fun e=>U (hL.symm.trans e)),hL]
       have ao:∀x:Nat,(Words.look t (x:Int)).isSome=true↔x∈(lps T b (k+1)).flatten:=fun x=>by rw[G,F];simp
       have eo:=Zec T b k;have ep:(lps T b k).length+1<=maxLen:=by unfold maxLen;omega
       obtain⟨i0,hi,dj,bs,dk⟩:=info_parts infoRow;clear b9;obtain⟨a7,a1,aj,ay,bg,c6,a9,d8,cv,ai,be,ax⟩:=zz12 aa Y X ar au S ac hL U R G ao;obtain⟨b5,a0,du⟩:=zz3 d F b2;clear aa Y X ar au S ac hL U R G ao d F b2;gi_wp2_with (gi_at_builtin;refine wpListIn_append_own _ rfl _ _ 78 rfl (w.heap.size+2) 28 i0 (.slice none 0 0) 1 24 Tryz.underlying78 hi dj bs dk rfl (by decide) _ _ _ rfl (ay.out.alloc _) ⟨W.heap.size,0,none⟩ 1 1 [.slice Al L.length C] rfl rfl (cell_one_new _ _ _) (by simp[Value.oneCell']) (by omega) (by omega) (by simp;omega) ?_;intro v' w5 c7 bl _);have bk:(W.alloc (.cells #[.slice Al L.length C] 28)).grownBy w5 r.ownBlock:=bl;have a4:=ay.out;have bp:=a4.alloc (.cells #[.slice Al L.length C] 28);have d2:∀j,r.ownBlock=some j->w.heap.size+2<=j:=fun j hj=>(a4.lt j hj).1
       have a2:Below (w.heap.size+2) W w5:=((zr _ W).alloc (by omega) _).grown bk (by simp;omega) fun j hj=>d2 j hj
       have d1:Below w.heap.size w w5:=b6.trans (a2.mono (by omega));have c8:=a1.out.below a2 (by omega);have b1:Mp enc1 I64 (fun _:Unit=>.bool true) w5 w.heap.size t:=ai.out.below a2 (by omega);have d4:Boxed w5 (w.heap.size+1) 85 (.map (some w.heap.size)):=(a2.block (w.heap.size+1) (by omega)).trans a7.out;have d6:=a2.size;have bm:∀(v:Value) (L':List Nat),W.ownsRow (w.heap.size+2) 3 1 v L'.length (nvals L')->w5.ownsRow (w.heap.size+2) 3 1 v L'.length (nvals L'):=fun v L' h9=>by
        have hA:=h9.alloc (.cells #[.slice Al L.length C] 28);exact hA.kept bk (Zbi bp hA (by decide))
       have bq:OwnRows w5 (w.heap.size+2) v' (lps T b (k+1)):=by
        rw[a0.out];refine⟨vs++[.slice Al L.length C],by simp[v1],by rw[zA];exact c7,fun i v L' e1 e2=>?_⟩;by_cases dd:i<(lps T b k).length
        ·rw[List.getElem?_append_left (by omega)]at e1;rw[List.getElem?_append_left dd]at e2;exact bm v L' (bg.out i v L' e1 e2)
        ·have dc:i=(lps T b k).length:=by
          have:=(zS.1 e2).1;rw[zA]at this;simp only[List.length_cons,List.length_nil]at this;omega
         subst dc;rw[<- v1]at e1;rw[List.getElem?_append_right zl]at e1 e2;simp only[Nat.sub_self,List.getElem?_cons_zero,Option.some.injEq]at e1 e2;subst e1;subst e2;exact bm _ _ (zalq aj.out (by omega))
       have d5:Marks w5 (w.heap.size+2) (Words.mark D::ds):=by
        refine(a9.out.below ((zr _ W).alloc zl (.cells #[.slice Al L.length C] 28))).grown bk fun q hq h9=>?_
        rcases bp.2 with⟨rfl,_⟩|⟨g9,bh,e0,rfl,_,db,_⟩
        ·cases hq
        ·have:g9=q:=by simpa[Value.ownBlock]using hq
         subst this;rw[db]at h9;cases h9
       refine⟨⟨Words.mark D::ds,v',_,_,_,_,_,_,_,_,_,_,_,_,_,_,_,_,_,_,_,_,_,_,_,_,_,_,_,k+1,(k:Int)+1,by simp,⟨by omega,bq,⟨t,b1,ax.out⟩,d4,d1,c8,by omega⟩,d5,rfl⟩,?_⟩;show b-((k:Int)+1).toNat<b-((k:Int)).toNat;omega
open Go Go.RowKit Go.Words Go.Mesh
end Go.Proofs.YtpbdcppaiafbgaaGreat
namespace Go.Mesh
end Go.Mesh
namespace Go.Proofs.YtpbdcppaiafbgaaGreat
open Go Go.RowKit Go.Words Go.Mesh
