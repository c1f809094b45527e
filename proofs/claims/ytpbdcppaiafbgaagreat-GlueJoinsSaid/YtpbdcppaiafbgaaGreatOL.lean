/- Walks: the same bodies? (slices.Equal of triangles. -/
import Derived.Test.YtpbdcppaiafbgaaGreatOG
import Derived.Test.YtpbdcppaiafbgaaGreatEQ
set_option maxRecDepth 100000
set_option maxHeartbeats 8000000
namespace Go.Proofs.YtpbdcppaiafbgaaGreat
open Go Go.RowKit Go.Words Go.Mesh
theorem pt_run45(x1 x2 x3 y1 y2 y3:Int)(w:World):Sem.run Tryz.prog (Op.equalIn 10000 74 (.agg #[.int .i64 x1,.int .i64 x2,.int .i64 x3]) (.agg #[.int .i64 y1,.int .i64 y2,.int .i64 y3])) w=.ok (decide ((x1,x2,x3)=(y1,y2,y3))) w:=by
 obtain⟨i,hi,_⟩:=info_parts Zap;have a:Tryz.prog.plainKey 3 = true:=by kernel_rfl
 have m:Tryz.prog.cellsOf 3 = 1:=by kernel_rfl
 rw[show(10000:Nat)=9999+1 from rfl,run_equalIn_array w 9999 _ _ Tryz.underlying74 hi,m,show List.range 3=[0,1,2]from rfl];have f:Sem.run Tryz.prog (part 3 #[.int .i64 x1,.int .i64 x2,.int .i64 x3] (0*1)) w=.ok (.int .i64 x1) w:=run_part_plain w a rfl;have g:Sem.run Tryz.prog (part 3 #[.int .i64 x1,.int .i64 x2,.int .i64 x3] (1*1)) w=.ok (.int .i64 x2) w:=run_part_plain w a rfl;have h:Sem.run Tryz.prog (part 3 #[.int .i64 x1,.int .i64 x2,.int .i64 x3] (2*1)) w=.ok (.int .i64 x3) w:=run_part_plain w a rfl;have j:Sem.run Tryz.prog (part 3 #[.int .i64 y1,.int .i64 y2,.int .i64 y3] (0*1)) w=.ok (.int .i64 y1) w:=run_part_plain w a rfl;have k:Sem.run Tryz.prog (part 3 #[.int .i64 y1,.int .i64 y2,.int .i64 y3] (1*1)) w=.ok (.int .i64 y2) w:=run_part_plain w a rfl;have l:Sem.run Tryz.prog (part 3 #[.int .i64 y1,.int .i64 y2,.int .i64 y3] (2*1)) w=.ok (.int .i64 y3) w:=run_part_plain w a rfl;have e:∀x y:Int,Sem.run Tryz.prog (Op.equalIn 9999 3 (.int .i64 x) (.int .i64 y)) w=.ok (x==y) w:=fun x y=>run_equalIn_int w 9998 3 .i64 .i64 x y Tryz.underlying3
 simp only[Op.eqItems,Sem.run_bind,f,j,e,Result.andThen_ok];by_cases b:x1=y1
 ·subst b;simp only[beq_self_eq_true,Bool.not_true,Bool.false_eq_true,if_false,Sem.run_bind,g,k,e,Result.andThen_ok];by_cases c:x2=y2
  ·subst c;simp only[beq_self_eq_true,Bool.not_true,Bool.false_eq_true,if_false,Sem.run_bind,h,l,e,Result.andThen_ok];by_cases d:x3=y3
   ·subst d;simp
   ·have:(x3==y3)=false:=by simpa using d
    simp[d]
  ·have:(x2==y2)=false:=by simpa using c
   simp[c]
 ·have:(x1==y1)=false:=by simpa using b
  simp[b]
theorem Zrv{w:World}{B:Nat}{va vb:Value}{la lb:List Int}(ha:Sl 1 RInt w B va la)(hb:Sl 1 RInt w B vb lb)(hB0:B<=w.heap.size)(hla:la.length<=1000000) :
  Calls Tryz.prog 43 #[va,vb] w fun e w'=>e=.returned (.bool (decide (la=lb)))/\Below w.heap.size w w':=by
 obtain⟨A,M,rfl,J⟩:=ha.form;obtain⟨C,I,rfl,o⟩:=hb.form;by_cases f:la.length=lb.length
 case neg =>
  rw[zN (fun h9=>f (by rw[h9]))];have d:(la.length:Int)≠(lb.length:Int):=by omega
  obtain⟨p,q⟩:=zz2 ha hb;clear ha hb;go_enter Tryz.func43,Tryz.ntmps43;go_wp2;go_ret;exact⟨rfl,zr _ _⟩
 case pos =>
  have d:(la.length:Int)=(lb.length:Int):=by omega
  rw[<- f]at o ⊢;obtain⟨p,q,c,H⟩:=zz4 ha hb f d;clear ha hb f d;go_enter Tryz.func43,Tryz.ntmps43;go_wp2_with fail;go_loopw[13] (fun i wr=>∃k:Nat,k<=la.length/\i=.int .i64 k/\la.take k=lb.take k/\Below w.heap.size w wr) (fun i _=>la.length-(intOf i).toNat)
  case atStart=>exact⟨0,by omega,rfl,rfl,zr _ _⟩
  case round =>
   obtain⟨k,T,rfl,a,b⟩:=hrel;by_cases r:k<la.length
   ·have j:k<lb.length:=by have:=c.out;omega
    have z:=p.out.below zadq (b.mono hB0);have n:=q.out.below zadq (b.mono hB0);rw[<- c.out]at n;obtain⟨P,U,rfl,N,R⟩:=z.int_at r;obtain⟨Q,V,rfl,O,S⟩:=n.int_at j;have g:la[k]=lb[k]->la.take (k+1)=lb.take (k+1):=fun h9=>by rw[zT r,zT j,a,h9]
    have s:la[k]≠lb[k]->¬la=lb:=fun h9 h8=>h9 (by subst h8;rfl)
    generalize la[k]=x at *;generalize lb[k]=y at *;obtain⟨K,L,m,h,u⟩:=zz5 z n a g s;clear z n a g s;by_cases l:x=y
    ·have t:=h.out l;subst l;have v:=zz t;clear t;go_wp2_with(first|(refine Canon.wp_region_text mixed (by kernel_rfl) ?_)|(refine Canon.chk (by rfl) ?_));exact⟨⟨k+1,by omega,by simp,v.out,b.drew⟩,by simp[intOf];omega⟩
    ·have G:=u.out l;have E:=zz G;clear G;go_wp2_with(first|(refine Canon.wp_region_text mixed (by kernel_rfl) ?_)|(refine Canon.chk (by rfl) ?_));go_ret;exact⟨zaxq (zN E.out).symm,b.drew⟩
   ·obtain rfl:k=la.length:=by omega
    have F:la=lb:=by rw[List.take_length,c.out,List.take_length]at a;exact a
    obtain⟨D,m⟩:=zz2 F a;clear F a;go_wp2_with fail;go_ret;exact⟨zaxq (zY D.out).symm,b⟩
theorem Zw2{w:World}{B:Nat}{va vb:Value}{la lb:List T3}(ha:Sl 3 RTri w B va la)(hb:Sl 3 RTri w B vb lb)(hB0:B<=w.heap.size)(hla:la.length<=1000000) :
  Calls Tryz.prog 95 #[va,vb] w fun e w'=>e=.returned (.bool (decide (la=lb)))/\Below w.heap.size w w':=by
 obtain⟨A,a0,rfl,Z⟩:=ha.form;obtain⟨C,V,rfl,q⟩:=hb.form;by_cases l:la.length=lb.length
 case neg =>
  rw[zN (fun h9=>l (by rw[h9]))];have h:(la.length:Int)≠(lb.length:Int):=by omega
  obtain⟨r,s⟩:=zz2 ha hb;clear ha hb;go_enter Tryz.func95,Tryz.ntmps95;go_wp2;go_ret;exact⟨rfl,zr _ _⟩
 case pos =>
  have h:(la.length:Int)=(lb.length:Int):=by omega
  rw[<- l]at q ⊢;obtain⟨r,s,g,R⟩:=zz4 ha hb l h;clear ha hb l h;go_enter Tryz.func95,Tryz.ntmps95;go_wp2_with fail;go_loopw[13] (fun i wr=>∃k:Nat,k<=la.length/\i=.int .i64 k/\la.take k=lb.take k/\Below w.heap.size w wr) (fun i _=>la.length-(intOf i).toNat)
  case atStart=>exact⟨0,by omega,rfl,rfl,zr _ _⟩
  case round =>
   obtain⟨k,hk,rfl,a,d⟩:=hrel;by_cases t:k<la.length
   ·have p:k<lb.length:=by have:=g.out;omega
    have o:=r.out.below zaaq (d.mono hB0);have m:=s.out.below zaaq (d.mono hB0);rw[<- g.out]at m;obtain⟨b1,o1,rfl,a1,S,T,U⟩:=o.tri_at t;obtain⟨b2,o2,rfl,a2,W,X,Y⟩:=m.tri_at p;have b:la[k]=lb[k]->la.take (k+1)=lb.take (k+1):=fun h9=>by rw[zT t,zT p,a,h9]
    have f:la[k]≠lb[k]->¬la=lb:=fun h9 h8=>h9 (by subst h8;rfl)
    generalize la[k]=x at *;generalize lb[k]=y at *;obtain⟨L,M,N⟩:=x;obtain⟨O,P,Q⟩:=y;simp only[]at S T U W X Y;have K:=pt_run45 L M N O P Q;by_cases c:(L,M,N)=(O,P,Q)
    ·have u:=b c;rw[zY c]at K;obtain⟨E,F,j,z,n,v,D⟩:=zz7 o m a u b f c;clear o m a u b f c;go_wp2_with(first|(refine Canon.wp_region_text mixed (by kernel_rfl) ?_)|(refine Canon.chk (by rfl) ?_));exact⟨⟨k+1,by omega,by simp,z.out,d.drew⟩,by simp[intOf];omega⟩
    ·have J:=f c;rw[zN c]at K;obtain⟨E,F,j,H,n,v,D⟩:=zz7 o m a J b f c;clear o m a J b f c;go_wp2_with(first|(refine Canon.wp_region_text mixed (by kernel_rfl) ?_)|(refine Canon.chk (by rfl) ?_));go_ret;exact⟨zaxq (zN H.out).symm,d.drew⟩
   ·obtain rfl:k=la.length:=by omega
    have I:la=lb:=by rw[List.take_length,g.out,List.take_length]at a;exact a
    obtain⟨G,j⟩:=zz2 I a;clear I a;go_wp2_with fail;go_ret;exact⟨zaxq (zY G.out).symm,d⟩
theorem equalT_calls{w:World}{B:Nat}{va vb:Value}{la lb:List T3}(ha:Sl 3 RTri w B va la)(hb:Sl 3 RTri w B vb lb)(hB0:B<=w.heap.size)(hla:la.length<=1000000) :
  Calls Tryz.prog 131 #[va,vb] w fun e w'=>e=.returned (.bool (decide (la=lb)))/\Below w.heap.size w w':=by
 obtain⟨A,a0,rfl,Z⟩:=ha.form;obtain⟨C,V,rfl,q⟩:=hb.form;by_cases l:la.length=lb.length
 case neg =>
  rw[zN (fun h9=>l (by rw[h9]))];have h:(la.length:Int)≠(lb.length:Int):=by omega
  obtain⟨r,s⟩:=zz2 ha hb;clear ha hb;go_enter Tryz.func131,Tryz.ntmps131;go_wp2;go_ret;exact⟨rfl,zr _ _⟩
 case pos =>
  have h:(la.length:Int)=(lb.length:Int):=by omega
  rw[<- l]at q ⊢;obtain⟨r,s,g,R⟩:=zz4 ha hb l h;clear ha hb l h;go_enter Tryz.func131,Tryz.ntmps131;go_wp2_with fail;go_loopw[13] (fun i wr=>∃k:Nat,k<=la.length/\i=.int .i64 k/\la.take k=lb.take k/\Below w.heap.size w wr) (fun i _=>la.length-(intOf i).toNat)
  case atStart=>exact⟨0,by omega,rfl,rfl,zr _ _⟩
  case round =>
   obtain⟨k,hk,rfl,a,d⟩:=hrel;by_cases t:k<la.length
   ·have p:k<lb.length:=by have:=g.out;omega
    have o:=r.out.below zaaq (d.mono hB0);have m:=s.out.below zaaq (d.mono hB0);rw[<- g.out]at m;obtain⟨b1,o1,rfl,a1,S,T,U⟩:=o.tri_at t;obtain⟨b2,o2,rfl,a2,W,X,Y⟩:=m.tri_at p;have b:la[k]=lb[k]->la.take (k+1)=lb.take (k+1):=fun h9=>by rw[zT t,zT p,a,h9]
    have f:la[k]≠lb[k]->¬la=lb:=fun h9 h8=>h9 (by subst h8;rfl)
    generalize la[k]=x at *;generalize lb[k]=y at *;obtain⟨L,M,N⟩:=x;obtain⟨O,P,Q⟩:=y;simp only[]at S T U W X Y;have K:=Zp9 L M N O P Q;by_cases c:(L,M,N)=(O,P,Q)
    ·have u:=b c;rw[zY c]at K;obtain⟨E,F,j,z,n,v,D⟩:=zz7 o m a u b f c;clear o m a u b f c;go_wp2_with(first|(refine Canon.wp_region_text mixed (by kernel_rfl) ?_)|(refine Canon.chk (by rfl) ?_));exact⟨⟨k+1,by omega,by simp,z.out,d.drew⟩,by simp[intOf];omega⟩
    ·have J:=f c;rw[zN c]at K;obtain⟨E,F,j,H,n,v,D⟩:=zz7 o m a J b f c;clear o m a J b f c;go_wp2_with(first|(refine Canon.wp_region_text mixed (by kernel_rfl) ?_)|(refine Canon.chk (by rfl) ?_));go_ret;exact⟨zaxq (zN H.out).symm,d.drew⟩
   ·obtain rfl:k=la.length:=by omega
    have I:la=lb:=by rw[List.take_length,g.out,List.take_length]at a;exact a
    obtain⟨G,j⟩:=zz2 I a;clear I a;go_wp2_with fail;go_ret;exact⟨zaxq (zY G.out).symm,d⟩
theorem Zw8{w:World}{B:Nat}{va vb:Value}{Na Nb:Int}{la lb:List T3}(ha:Sl 3 RTri w B va la)(hb:Sl 3 RTri w B vb lb)(hB0:B<=w.heap.size)(hla:la.length<=1000000) :
  Calls Tryz.prog 94 #[.agg #[.int .i64 Na,va],.agg #[.int .i64 Nb,vb]] w fun e w'=>e=.returned (.bool (decide (Na=Nb/\la=lb)))/\Below w.heap.size w w':=by
 obtain⟨A,l,rfl,r⟩:=ha.form;obtain⟨C,g,rfl,q⟩:=hb.form;have a:=((zr w.heap.size w).alloc zl (.cells #[.int .i64 Na,.slice A la.length l] 24)).alloc (by simp) (.cells #[.int .i64 Nb,.slice C lb.length g] 24);have s:w.heap.size+2<=((w.alloc (.cells #[.int .i64 Na,.slice A la.length l] 24)).alloc (.cells #[.int .i64 Nb,.slice C lb.length g] 24)).heap.size:=by simp
 have c:=equalT_calls (ha.below zaaq (a.mono hB0)) (hb.below zaaq (a.mono hB0)) (by omega) hla;by_cases h:Na=Nb
 case neg =>
  rw[zN (fun h9=>h h9.1)];have p:(Na==Nb)=false:=beq_eq_false_iff_ne.2 h;obtain⟨m,n,b,f⟩:=zz4 ha hb a c;clear ha hb a c;go_enter Tryz.func94,Tryz.ntmps94;go_wp2_with fail;go_ret;exact⟨rfl,b.out⟩
 subst h;have p:(Na==Na)=true:=beq_self_eq_true _;obtain⟨m,n,b,f⟩:=zz4 ha hb a c;clear ha hb a c;go_enter Tryz.func94,Tryz.ntmps94;go_wp2_with fail;refine f.out.mono ?_;rintro e t ⟨rfl,o⟩;have i:=b.out.trans (o.mono b.out.size);by_cases k:la=lb
 ·rw[zY k];have j:decide (Na=Na/\la=lb)=true:=zY ⟨rfl,k⟩;have d:=zz j;clear j;go_wp2_with fail;go_ret;exact⟨zaxq d.out.symm,i⟩
 ·rw[zN k];have j:decide (Na=Na/\la=lb)=false:=zN fun h9=>k h9.2
  have d:=zz j;clear j;go_wp2_with fail;go_ret;exact⟨zaxq d.out.symm,i⟩
theorem Zr7{w:World}{B:Nat}{va vb pa pb ka kb:Value}{Na Nb:Int}{la lb Pa Pb:List T3}{Ka Kb:List Int}(hB0:B<=w.heap.size)(ha:Sl 3 RTri w B va la)(hb:Sl 3 RTri w B vb lb)(hpa:Sl 3 RTri w B pa Pa)(hpb:Sl 3 RTri w B pb Pb)(hka:Sl 1 RInt w B ka Ka)(hkb:Sl 1 RInt w B kb Kb)
  (hla:la.length<=1000000) (hlp:Pa.length<=1000000) (hlk:Ka.length<=1000000) :
  Calls Tryz.prog 48 #[.agg #[.int .i64 Na,va,pa,ka],.agg #[.int .i64 Nb,vb,pb,kb]] w fun e w'=>e=.returned (.bool (decide ((Na=Nb/\la=lb)/\Pa=Pb/\Ka=Kb)))/\Below w.heap.size w w':=by
 obtain⟨A,k,rfl,ap⟩:=ha.form;obtain⟨C,a,rfl,ad⟩:=hb.form;obtain⟨E,b,rfl,ae⟩:=hpa.form;obtain⟨F,c,rfl,af⟩:=hpb.form;obtain⟨G,d,rfl,ag⟩:=hka.form;obtain⟨H,f,rfl,ah⟩:=hkb.form;have i:=((zr w.heap.size w).alloc zl (.cells #[.int .i64 Na,.slice A la.length k,.slice E Pa.length b,.slice G Ka.length d] 67)).alloc (by simp) (.cells #[.int .i64 Nb,.slice C lb.length a,.slice F Pb.length c,.slice H Kb.length f] 67);have z:=(Bk.new w 67 [.int .i64 Na,.slice A la.length k,.slice E Pa.length b,.slice G Ka.length d]).alloc (.cells #[.int .i64 Nb,.slice C lb.length a,.slice F Pb.length c,.slice H Kb.length f] 67);have D:=Bk.new' (n:=w.heap.size+1) (w:=w.alloc (.cells #[.int .i64 Na,.slice A la.length k,.slice E Pa.length b,.slice G Ka.length d] 67)) 67 [.int .i64 Nb,.slice C lb.length a,.slice F Pb.length c,.slice H Kb.length f] (by simp);have au:w.heap.size+2<=((w.alloc (.cells #[.int .i64 Na,.slice A la.length k,.slice E Pa.length b,.slice G Ka.length d] 67)).alloc (.cells #[.int .i64 Nb,.slice C lb.length a,.slice F Pb.length c,.slice H Kb.length f] 67)).heap.size:=by simp
 generalize a9:(w.alloc (.cells #[.int .i64 Na,.slice A la.length k,.slice E Pa.length b,.slice G Ka.length d] 67)).alloc (.cells #[.int .i64 Nb,.slice C lb.length a,.slice F Pb.length c,.slice H Kb.length f] 67)=O at *;have I:=ha.below zaaq (i.mono hB0);have J:=hb.below zaaq (i.mono hB0);have M:=hpa.below zaaq (i.mono hB0);have N:=hpb.below zaaq (i.mono hB0);have K:=hka.below zadq (i.mono hB0);have L:=hkb.below zadq (i.mono hB0);have Z:=Zw8 (Na:=Na) (Nb:=Nb) I J (by omega) hla;have u:B<=O.heap.size:=by omega
 have c0:O.cell? ⟨w.heap.size,0,none⟩=some (.int .i64 Na):=z.cell 0;have c1:O.cell? ⟨w.heap.size,1,none⟩=some (.slice A la.length k):=z.cell 1;have d0:O.cell? ⟨w.heap.size+1,0,none⟩=some (.int .i64 Nb):=D.cell 0;have d1:O.cell? ⟨w.heap.size+1,1,none⟩=some (.slice C lb.length a):=D.cell 1;obtain⟨aq,ar,an,ao,ak,am,a1,a2,ai,aj,T,U⟩:=zz12 ha hb hpa hpb hka hkb z D I J M N;obtain⟨R,S,a4⟩:=zz3 K L Z;clear ha hb hpa hpb hka hkb z D I J M N K L Z;go_enter Tryz.func48,Tryz.ntmps48;go_wp2_with fail;clear a9;refine a4.out.mono ?_;rintro e w1 ⟨rfl,g⟩;have av:=g.size;have v:=i.trans (g.mono (by omega));by_cases s:Na=Nb/\la=lb
 case neg =>
  rw[zN s];have j:decide ((Na=Nb/\la=lb)/\Pa=Pb/\Ka=Kb)=false:=zN fun h9=>s h9.1
  obtain⟨h,V⟩:=zz2 j s;clear j s;go_wp2_with fail;go_ret;exact⟨zaxq h.out.symm,v⟩
 rw[zY s];have o:=a1.out.below g (by omega);have q:=a2.out.below g (by omega);have e2:w1.cell? ⟨w.heap.size,2,none⟩=some (.slice E Pa.length b):=o.cell 2;have f2:w1.cell? ⟨w.heap.size+1,2,none⟩=some (.slice F Pb.length c):=q.cell 2;have Y:=Zw2 (w:=w1) (B:=B) (T.out.below zaaq (g.mono u)) (U.out.below zaaq (g.mono u)) (by omega) hlp;obtain⟨V,P,Q,a3⟩:=zz4 s o q Y;clear s o q Y;go_wp2_with fail;refine a3.out.mono ?_;rintro e w2 ⟨rfl,l⟩;have aw:=l.size;have x:=v.trans (l.mono (by omega));by_cases t:Pa=Pb
 case neg =>
  rw[zN t];have j:decide ((Na=Nb/\la=lb)/\Pa=Pb/\Ka=Kb)=false:=zN fun h9=>t h9.2.1
  obtain⟨h,W⟩:=zz2 j t;clear j t;go_wp2_with fail;go_ret;exact⟨zaxq h.out.symm,x⟩
 rw[zY t];have p:=P.out.below l (by omega);have r:=Q.out.below l (by omega);have e3:w2.cell? ⟨w.heap.size,3,none⟩=some (.slice G Ka.length d):=p.cell 3;have f3:w2.cell? ⟨w.heap.size+1,3,none⟩=some (.slice H Kb.length f):=r.cell 3;have X:=Zrv (w:=w2) (B:=B) ((R.out.below zadq (g.mono u)).below zadq (l.mono (by omega))) ((S.out.below zadq (g.mono u)).below zadq (l.mono (by omega))) (by omega) hlk;obtain⟨W,aa,ac,a0⟩:=zz4 t p r X;clear t p r X;go_wp2_with fail;refine a0.out.mono ?_;rintro e w3 ⟨rfl,a8⟩;have y:=x.trans (a8.mono (by omega));by_cases m:Ka=Kb
 ·rw[zY m];have j:decide ((Na=Nb/\la=lb)/\Pa=Pb/\Ka=Kb)=true:=zY ⟨V.out,W.out,m⟩;obtain⟨h,a7⟩:=zz2 j m;clear j m;go_wp2_with fail;go_ret;exact⟨zaxq h.out.symm,y⟩
 ·rw[zN m];have j:decide ((Na=Nb/\la=lb)/\Pa=Pb/\Ka=Kb)=false:=zN fun h9=>m h9.2.2
  obtain⟨h,a7⟩:=zz2 j m;clear j m;go_wp2_with fail;go_ret;exact⟨zaxq h.out.symm,y⟩
def Zo0(N:Int)(n m k:Nat):Bool:=decide (40<n)||decide (120<N)||decide (160<m)||decide (160<k)
theorem Zv7{N:Int}{n m k:Nat}(h:Zo0 N n m k=false):n<=40/\N<=120/\m<=160/\k<=160:=by
 unfold Zo0 at h;simp only[Bool.or_eq_false_iff,decide_eq_false_iff_not]at h;omega
theorem Zo6(N:Int)(A A2 A3:Option Addr)(n m k cap cap2 cap3:Nat)(w:World):Calls Tryz.prog 38 #[.agg #[.int .i64 N,.slice A n cap,.slice A2 m cap2,.slice A3 k cap3]] w fun e w'=>e=.returned (.bool (Zo0 N n m k))/\Below w.heap.size w w':=by
 have c:=(zr w.heap.size w).alloc zl (.cells #[.int .i64 N,.slice A n cap,.slice A2 m cap2,.slice A3 k cap3] 67);have a:Zo0 N n m k=(decide (40<(n:Int))||decide (120<N)||decide (160<(m:Int))||decide (160<(k:Int))):=by
  unfold Zo0
  congr 1
  ·congr 1
   ·congr 1
    exact decide_eq_decide.2 (by omega)
   ·exact decide_eq_decide.2 (by omega)
  ·exact decide_eq_decide.2 (by omega)
 rcases(by omega:40<(n:Int)\/(¬40<(n:Int)/\120<N)\/(¬40<(n:Int)/\¬120<N/\160<(m:Int))\/(¬40<(n:Int)/\¬120<N/\¬160<(m:Int)/\160<(k:Int))\/(¬40<(n:Int)/\¬120<N/\¬160<(m:Int)/\¬160<(k:Int)))with h|⟨h,d⟩|⟨h,d,g⟩|⟨h,d,g,i⟩|⟨h,d,g,i⟩
 ·rw[show Zo0 N n m k=true by rw[a,zY h];rfl];obtain⟨b,f⟩:=zz2 c a;clear c a;go_enter Tryz.func38,Tryz.ntmps38;go_wp2_with fail;all_goals try omega
  go_ret;exact⟨rfl,b.out⟩
 ·rw[show Zo0 N n m k=true by rw[a,zN h,zY d];rfl];obtain⟨b,f⟩:=zz2 c a;clear c a;go_enter Tryz.func38,Tryz.ntmps38;go_wp2_with fail;all_goals try omega
  go_ret;exact⟨rfl,b.out⟩
 ·rw[show Zo0 N n m k=true by rw[a,zN h,zN d,zY g];rfl];obtain⟨b,f⟩:=zz2 c a;clear c a;go_enter Tryz.func38,Tryz.ntmps38;go_wp2_with fail;all_goals try omega
  go_ret;exact⟨rfl,b.out⟩
 ·rw[show Zo0 N n m k=true by rw[a,zN h,zN d,zN g,zY i];rfl];obtain⟨b,f⟩:=zz2 c a;clear c a;go_enter Tryz.func38,Tryz.ntmps38;go_wp2_with fail;all_goals try omega
  go_ret;exact⟨rfl,b.out⟩
 ·rw[show Zo0 N n m k=false by rw[a,zN h,zN d,zN g,zN i];rfl];obtain⟨b,f⟩:=zz2 c a;clear c a;go_enter Tryz.func38,Tryz.ntmps38;go_wp2_with fail;all_goals try omega
  go_ret;exact⟨rfl,b.out⟩
