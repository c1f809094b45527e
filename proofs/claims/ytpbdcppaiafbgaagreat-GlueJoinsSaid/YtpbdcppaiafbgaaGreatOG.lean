/- Walks: a body cut open along a loop (glue's Open). Walks: a. -/
import Derived.Test.YtpbdcppaiafbgaaGreatOB
import Derived.Test.YtpbdcppaiafbgaaGreatOC
set_option maxRecDepth 100000
set_option maxHeartbeats 8000000
namespace Go.Mesh
theorem newO_rng{N:Int}{T:List T3}(hs:Surf N T)(C:List (Int×Int)):∀v∈newO N T C,0<=v/\v<N:=fun v hv=>by
 rw[Zq2]at hv;unfold outO at hv;have e:=hs.n0;rcases zP.1 hv with h|h
 ·obtain⟨k,d,rfl⟩:=zB.1 h;have:=zR.1 d;omega
 ·obtain⟨c,b,rfl⟩:=zB.1 h;obtain⟨_,_,a,_⟩:=mem_exH.1 b;exact hs.rng c a
def Zee(P:List T3)(O:List Int):List T3:=O.map fun v=>P.getD v.toNat (0,0,0)
theorem ptsOf_take{P:List T3}{O:List Int}{k vn:Nat}(hk:k<O.length)(hv:O[k]=(vn:Int))(hp:vn<P.length):Zee P (O.take (k+1))=Zee P (O.take k)++[P[vn]]:=by
 unfold Zee;rw[zT hk,List.map_append,List.map_cons,List.map_nil,hv,zC,zD,zG hp];rfl
end Go.Mesh
namespace Go.Proofs.YtpbdcppaiafbgaaGreat
open Go Go.RowKit Go.Words Go.Mesh
theorem Ztp(w:World):(Instr.build 67 #[]).run Tryz.prog w=.ok (.agg #[.int .i64 0,.slice none 0 0,.slice none 0 0,.slice none 0 0]) w:=by kernel_rfl
theorem Zo8:(Tryz.prog.info? 74).map (fun i=>(i.zero,i.size,i.bytes))=some (some (.agg #[.int .i64 0,.int .i64 0,.int .i64 0]),3,24):=by kernel_rfl
def NoBody(x o:Value):Prop:=x=.agg #[.int .i64 0,.slice none 0 0,.slice none 0 0,.slice none 0 0]/\o=.slice none 0 0
def Zot(wz:World)(N:Int)(T P:List T3)(K:List Int)(l:List Int)(x o:Value):Prop :=
 ∃sv pv kv,x=.agg #[.int .i64 ((newO N T ((lpE l).map nm)).length:Nat),sv,pv,kv]/\Sl 3 RTri wz wz.heap.size sv (newX N T ((lpE l).map nm))/\Sl 3 RTri wz wz.heap.size pv (Zee P (newO N T ((lpE l).map nm)))/\Sl 1 RInt wz wz.heap.size kv K/\Sl 1 RInt wz wz.heap.size o (newO N T ((lpE l).map nm))
def Zwo(N:Int)(T P:List T3)(K:List Int)(l:List Int)(c:Int):Prop :=
 (¬Surf N T/\c=11)\/(Surf N T/\mayB N T P K=false/\c=1)\/(Surf N T/\mayB N T P K=true /\
  ((lpN N T l≠0/\c=lpN N T l)\/(lpN N T l=0/\4096<(newO N T ((lpE l).map nm)).length/\c=7)\/(lpN N T l=0/\(newO N T ((lpE l).map nm)).length<=4096/\c=0)))
def OpenEnd(w w':World)(N:Int)(T P:List T3)(K:List Int)(l:List Int)(x o:Value)(c:Int):Prop :=
 Zwo N T P K l c/\(c≠0->NoBody x o)/\(c=0->∀wz:World,(∀b,w.heap.size<=b->b<w'.heap.size->wz.heap[b]? = w'.heap[b]?)->Zot wz N T P K l x o)
def Zy3(w4:World)(K:List Int)(M:Nat)(xv:Value)(s10:Value)(wx:World):Prop :=
 ∃g10 A2 cap2,s10=.pointer (some ⟨g10,0,none⟩)/\w4.heap.size<=g10/\Bk wx g10 67 [.int .i64 (M:Nat),xv,.slice none 0 0,.slice A2 K.length cap2]/\wx.ownsRow w4.heap.size 3 1 (.slice A2 K.length cap2) K.length (ivals K)/\Below w4.heap.size w4 wx
theorem LoopCut.shape{w':World}{N:Int}{T:List T3}{l:List Int}{x o:Value}{c:Int}(h:LoopCut w' N T l x o c):∃n9 A9 m9 q9 Ao no co,x=.agg #[.int .i64 n9,.slice A9 m9 q9]/\o=.slice Ao no co:=by
 rcases h with⟨_,_,a,b⟩|⟨_,_,_,a,b⟩|⟨_,_,_,_,a,b⟩|⟨_,_,_,_,j,a,b,d⟩
 ·exact⟨_,_,_,_,_,_,_,a,b⟩
 ·exact⟨_,_,_,_,_,_,_,a,b⟩
 ·exact⟨_,_,_,_,_,_,_,a,b⟩
 ·obtain⟨e,g,rfl,_⟩:=b.form;obtain⟨f,i,rfl,_⟩:=d.form;exact⟨_,_,_,_,_,_,_,a,rfl⟩
theorem LoopCut.code{w':World}{N:Int}{T:List T3}{l:List Int}{x o:Value}{c:Int}(h:LoopCut w' N T l x o c)(hs:Surf N T) :
  (lpN N T l≠0/\c=lpN N T l)\/(lpN N T l=0/\4096<(newO N T ((lpE l).map nm)).length/\c=7)\/(lpN N T l=0/\(newO N T ((lpE l).map nm)).length<=4096/\c=0):=by
 rcases h with⟨a,_⟩|⟨_,a,b,_⟩|⟨_,a,b,d,_⟩|⟨_,a,b,d,_⟩
 ·exact absurd hs a
 ·exact .inl ⟨a,b⟩
 ·exact .inr (.inl ⟨a,b,d⟩)
 ·exact .inr (.inr ⟨a,b,d⟩)
theorem Zif{w:World}{B cap:Nat}{A:Option Addr}{l:List Int}(h:Sl 1 RInt w B (.slice A l.length cap) l):(A=none->l.length=0)/\∀ad,A=some ad->∀j u,(ivals l)[j]? = some u->w.cell? (ad.add j)=some u:=by
 refine⟨fun e=>?_,fun ad e j u hj=>?_⟩
 ·subst e;rcases Nat.eq_zero_or_pos l.length with c|c
  ·exact c
  ·obtain⟨b,o,d,_⟩:=h.int_at c;cases d
 ·have a:j<l.length:=by
   have:=(zS.1 hj).1;unfold ivals at this
   rwa [zL]at this
  obtain⟨b,o,d,_,f⟩:=h.int_at a;rw[d]at e;injection e with e;subst e;unfold ivals at hj;rw[zJ,zG a]at hj;rw[<- zO hj,Addr.add_lit];exact f
theorem Zff{w:World}{g i base size n:Nat}{e:TypeId}{v u:Value}{xs:List Value}(h:w.ownsRow base e size v n xs)(hb:g<base):(w.setCell ⟨g,i,none⟩ u).ownsRow base e size v n xs :=
 h.kept (Zar w g i u) (.inr fun e=>by have:=(h.lt _ e).1;omega)
theorem Zgd(l:List Int):∀u∈ivals l,u.oneCell'=true:=fun u hu=>by
 unfold ivals at hu;obtain⟨y,_,rfl⟩:=zB.1 hu;rfl
theorem Zgz{w:World}{B:Nat}{sv pv kv lv:Value}{N:Int}{T P:List T3}{K l:List Int}(hB0:B<=w.heap.size)(hT:Sl 3 RTri w B sv T)(hP:Sl 3 RTri w B pv P)(hK:Sl 1 RInt w B kv K)(hN:I64 N)(hTl:T.length<=100000)(c4:P.length<=100000)(c3:K.length<=1000000)(hl:Sl 1 RInt w B lv l)(hok:∀x∈l,I64 x)(hll:l.length<=1000) :
  Calls Tryz.prog 39 #[.agg #[.int .i64 N,sv,pv,kv],lv] w fun e w'=>(∃x o c,e=.returned (.tuple #[x,o,.int .i64 c])/\OpenEnd w w' N T P K l x o c)/\Below w.heap.size w w':=by
 obtain⟨A,a2,rfl,hp⟩:=hT.form;obtain⟨Ap,H,rfl,gw⟩:=hP.form;obtain⟨Ak,D,rfl,gv⟩:=hK.form;have bb:=((zr w.heap.size w).alloc zl (.cells #[.int .i64 N,.slice A T.length a2,.slice Ap P.length H,.slice Ak K.length D] 67)).alloc (by simp) (.cells #[.int .i64 0,.slice none 0 0,.slice none 0 0,.slice none 0 0] 67);have c8:=(Bk.new w 67 [.int .i64 N,.slice A T.length a2,.slice Ap P.length H,.slice Ak K.length D]).alloc (.cells #[.int .i64 0,.slice none 0 0,.slice none 0 0,.slice none 0 0] 67);have ee:=Bk.new' (n:=w.heap.size+1) (w:=w.alloc (.cells #[.int .i64 N,.slice A T.length a2,.slice Ap P.length H,.slice Ak K.length D] 67)) 67 [.int .i64 0,.slice none 0 0,.slice none 0 0,.slice none 0 0] (by simp);have ij:w.heap.size+2<=((w.alloc (.cells #[.int .i64 N,.slice A T.length a2,.slice Ap P.length H,.slice Ak K.length D] 67)).alloc (.cells #[.int .i64 0,.slice none 0 0,.slice none 0 0,.slice none 0 0] 67)).heap.size:=by simp
 have cx:=hT.below zaaq (bb.mono hB0);have e4:=hP.below zaaq (bb.mono hB0);have dx:=hK.below zadq (bb.mono hB0);have ef:=hl.below zadq (bb.mono hB0);generalize gd:(w.alloc (.cells #[.int .i64 N,.slice A T.length a2,.slice Ap P.length H,.slice Ak K.length D] 67)).alloc (.cells #[.int .i64 0,.slice none 0 0,.slice none 0 0,.slice none 0 0] 67)=w0 at *;have c0:w0.cell? ⟨w.heap.size,0,none⟩=some (.int .i64 N):=c8.cell 0;have c1:w0.cell? ⟨w.heap.size,1,none⟩=some (.slice A T.length a2):=c8.cell 1;have eb:=Zim (.slice A T.length a2) N T w0 (B:=B) (by omega) cx hN;have i9:=fun w=>Ztp w
 obtain⟨i6,i5,i4,i8,ck,cj,cg,f4,f0,f1,ez,f7⟩:=zz12 hT hP hK hl cx e4 dx ef c8 ee eb hok;clear hT hP hK hl cx e4 dx ef c8 ee eb hok;go_enter Tryz.func39,Tryz.ntmps39;go_wp2_with fail;clear gd;refine ez.out.mono ?_;rintro e w1 ⟨⟨b0,rfl,bh⟩,aa⟩;have gg:=aa.size;have c5:=bb.trans (aa.mono (by omega));have M:=f0.out.below aa (by omega);have E:=f1.out.below aa (by omega);have r0:w1.cell? ⟨w.heap.size+1,0,none⟩=some (.int .i64 0):=E.cell 0;have r1:w1.cell? ⟨w.heap.size+1,1,none⟩=some (.slice none 0 0):=E.cell 1;have r2:w1.cell? ⟨w.heap.size+1,2,none⟩=some (.slice none 0 0):=E.cell 2;have r3:w1.cell? ⟨w.heap.size+1,3,none⟩=some (.slice none 0 0):=E.cell 3;have rf:=E.frozen;cases b0 with
 | false =>
  have el:¬Surf N T:=fun f=>by have:=bh.2 f;cases this
  have R:=(((E.set 0 (.int .i64 0)).set 1 (.slice none 0 0)).set 2 (.slice none 0 0)).set 3 (.slice none 0 0);have J:=(((c5.setCell (p:=⟨w.heap.size+1,0,none⟩) (by show w.heap.size<=w.heap.size+1;omega) (.int .i64 0)).setCell (p:=⟨w.heap.size+1,1,none⟩) (by show w.heap.size<=w.heap.size+1;omega) (.slice none 0 0)).setCell (p:=⟨w.heap.size+1,2,none⟩) (by show w.heap.size<=w.heap.size+1;omega) (.slice none 0 0)).setCell (p:=⟨w.heap.size+1,3,none⟩) (by show w.heap.size<=w.heap.size+1;omega) (.slice none 0 0);obtain⟨bt,bv,f6,hc,X,W⟩:=zz6 M E el bh R J;clear M E el bh R J;go_wp2_with fail;refine Zef rfl rfl X.out Tryz.underlying67 rfl (by kernel_rfl) rfl ?_;exact⟨⟨_,_,11,rfl,.inl ⟨f6.out,rfl⟩,fun _=>⟨rfl,rfl⟩,fun f=>absurd f (by decide)⟩,W.out⟩
 | true =>
  have hs:=bh.1 rfl;clear bh;have hm:=may_calls (w:=w1) (B:=B) (N:=N) (by omega) (ck.out.below zaaq (aa.mono (by omega))) (cj.out.below zaaq (aa.mono (by omega))) (cg.out.below zadq (aa.mono (by omega))) hTl c4 c3;have d0:w1.cell? ⟨w.heap.size,0,none⟩=some (.int .i64 N):=M.cell 0;have d1:w1.cell? ⟨w.heap.size,1,none⟩=some (.slice A T.length a2):=M.cell 1;have d2:w1.cell? ⟨w.heap.size,2,none⟩=some (.slice Ap P.length H):=M.cell 2;have d3:w1.cell? ⟨w.heap.size,3,none⟩=some (.slice Ak K.length D):=M.cell 3;obtain⟨b7,bt,bv,fs⟩:=zz4 hs M E hm;clear hs M E hm;go_wp2_with fail;refine fs.out.mono ?_;rintro e w2 ⟨rfl,bc⟩;have ik:=bc.size;have c6:=c5.trans (bc.mono (by omega));have a7:=bt.out.below bc (by omega);have F:=bv.out.below bc (by omega);have r0:w2.cell? ⟨w.heap.size+1,0,none⟩=some (.int .i64 0):=F.cell 0;have r1:w2.cell? ⟨w.heap.size+1,1,none⟩=some (.slice none 0 0):=F.cell 1;have r2:w2.cell? ⟨w.heap.size+1,2,none⟩=some (.slice none 0 0):=F.cell 2;have r3:w2.cell? ⟨w.heap.size+1,3,none⟩=some (.slice none 0 0):=F.cell 3;have rf:=F.frozen;cases ax:mayB N T P K with
  | false =>
   have R:=(((F.set 0 (.int .i64 0)).set 1 (.slice none 0 0)).set 2 (.slice none 0 0)).set 3 (.slice none 0 0);have J:=(((c6.setCell (p:=⟨w.heap.size+1,0,none⟩) (by show w.heap.size<=w.heap.size+1;omega) (.int .i64 0)).setCell (p:=⟨w.heap.size+1,1,none⟩) (by show w.heap.size<=w.heap.size+1;omega) (.slice none 0 0)).setCell (p:=⟨w.heap.size+1,2,none⟩) (by show w.heap.size<=w.heap.size+1;omega) (.slice none 0 0)).setCell (p:=⟨w.heap.size+1,3,none⟩) (by show w.heap.size<=w.heap.size+1;omega) (.slice none 0 0);obtain⟨bu,bw,Z,X,W⟩:=zz5 a7 F ax R J;clear a7 F ax R J;go_wp2_with fail;refine Zef rfl rfl X.out Tryz.underlying67 rfl (by kernel_rfl) rfl ?_;exact⟨⟨_,_,1,rfl,.inr (.inl ⟨b7.out,Z.out,rfl⟩),fun _=>⟨rfl,rfl⟩,fun f=>absurd f (by decide)⟩,W.out⟩
  | true =>
   have bz:=aa.trans (bc.mono gg);have a0:w2.cell? ⟨w.heap.size,0,none⟩=some (.int .i64 N):=a7.cell 0;have a1:w2.cell? ⟨w.heap.size,1,none⟩=some (.slice A T.length a2):=a7.cell 1;have e7:=Zow (w:=w2) (B:=B) (N:=N) (by omega) (ck.out.below zaaq (bz.mono (by omega))) hN (f4.out.below zadq (bz.mono (by omega))) f7.out hll;obtain⟨Z,bu,bw,ex⟩:=zz4 ax a7 F e7;clear ax a7 F e7;go_wp2_with fail;refine ex.out.mono ?_;rintro e w3 ⟨⟨x,o,c,rfl,hcut,ak⟩,au⟩;have ep:=au.size;have dt:=c6.trans (au.mono (by omega));have an:=bu.out.below au (by omega);have ao:=bw.out.below au (by omega);obtain⟨n9,s,t,v,Ao,no,co,rfl,rfl⟩:=hcut.shape;obtain⟨d,cc⟩:∃d,w3.alloc (.cells #[.int .i64 n9,.slice s t v] 24)=d:=⟨_,rfl⟩;have ai:Below w3.heap.size w3 d:=by rw[<- cc];exact(zr w3.heap.size w3).alloc zl _
   have il:w3.heap.size+1<=d.heap.size:=by rw[<- cc];simp
   have c7:=dt.trans (ai.mono (by omega));have a8:=an.below ai (by omega);have G:=ao.below ai (by omega);have ap:Bk d w3.heap.size 24 [.int .i64 n9,.slice s t v]:=by rw[<- cc];exact Bk.new w3 _ _
   have t0:d.cell? ⟨w3.heap.size,0,none⟩=some (.int .i64 n9):=ap.cell 0;have t1:d.cell? ⟨w3.heap.size,1,none⟩=some (.slice s t v):=ap.cell 1;have tf:=ap.frozen;have r0:d.cell? ⟨w.heap.size+1,0,none⟩=some (.int .i64 0):=G.cell 0;have r1:d.cell? ⟨w.heap.size+1,1,none⟩=some (.slice none 0 0):=G.cell 1;have r2:d.cell? ⟨w.heap.size+1,2,none⟩=some (.slice none 0 0):=G.cell 2;have r3:d.cell? ⟨w.heap.size+1,3,none⟩=some (.slice none 0 0):=G.cell 3;have rf:=G.frozen;have e2:d.cell? ⟨w.heap.size,2,none⟩=some (.slice Ap P.length H):=a8.cell 2;have e3:d.cell? ⟨w.heap.size,3,none⟩=some (.slice Ak K.length D):=a8.cell 3;have I:=hcut.code b7.out;by_cases d4:c=0
   case neg =>
    have ii:(c != 0)=true:=bne_iff_ne.2 d4;have be:Zwo N T P K l c:=.inr (.inr ⟨b7.out,Z.out,I⟩);have R:=(((G.set 0 (.int .i64 0)).set 1 (.slice none 0 0)).set 2 (.slice none 0 0)).set 3 (.slice none 0 0);have J:=(((c7.setCell (p:=⟨w.heap.size+1,0,none⟩) (by show w.heap.size<=w.heap.size+1;omega) (.int .i64 0)).setCell (p:=⟨w.heap.size+1,1,none⟩) (by show w.heap.size<=w.heap.size+1;omega) (.slice none 0 0)).setCell (p:=⟨w.heap.size+1,2,none⟩) (by show w.heap.size<=w.heap.size+1;omega) (.slice none 0 0)).setCell (p:=⟨w.heap.size+1,3,none⟩) (by show w.heap.size<=w.heap.size+1;omega) (.slice none 0 0);obtain⟨dj,bs,dp,dr,dq,bx,f3,cn,bo,X,W⟩:=zz11 hcut ak an ao a8 G ap I be R J;clear hcut ak an ao a8 G ap I be R J;go_wp2_with fail;refine Zef rfl rfl X.out Tryz.underlying67 rfl (by kernel_rfl) rfl ?_;exact⟨⟨_,_,c,rfl,bo.out,fun _=>⟨rfl,rfl⟩,fun f=>absurd f d4⟩,W.out⟩
   subst d4;have be:Zwo N T P K l 0:=.inr (.inr ⟨b7.out,Z.out,I⟩);obtain⟨xv,hx,hX,hO⟩:=ak rfl d fun b _ h2=>ai.block b h2
   injection hx with hx;have hx:=congrArg Array.toList hx;simp only[List.cons.injEq]at hx;obtain⟨dd,de,_⟩:=hx;injection dd with _ dd;subst de;obtain⟨ga,hq⟩:=hO.len;obtain⟨ei,_⟩:=hX.len;have e6:=cj.out.below zaaq ((bz.trans ((au.trans (ai.mono ep)).mono (by omega))).mono (show B<=w0.heap.size by omega));have dz:=cg.out.below zadq ((bz.trans ((au.trans (ai.mono ep)).mono (by omega))).mono (show B<=w0.heap.size by omega));have cw:(P.length:Int)=N:=by
    have f:=Z.out;unfold mayB at f;rw[Bool.and_eq_true]at f;exact(of_decide_eq_true f.1).1
   have db:=newO_rng b7.out ((lpE l).map nm);have gx:(newO N T ((lpE l).map nm)).length<=4096:=by
    rcases I with⟨h8,f⟩|⟨_,_,f⟩|⟨_,f,_⟩
    ·exact absurd f.symm h8
    ·exact absurd f (by decide)
    ·exact f
   have ie:((0:Int)!=0)=false:=rfl;generalize e1:newO N T ((lpE l).map nm)=O at *;subst dd;subst ga;obtain⟨dj,bs,dp,dr,dq,bx,f3,cn,bo,i7,fr,ew⟩:=zz12 hcut ak an ao a8 G ap I be hX hO e6;obtain⟨ci,di,ds,av,h7⟩:=zz5 dz cw db e1 ei;clear hcut ak an ao a8 G ap I be hX hO e6 dz cw db e1 ei;go_upto_region 8 with fail;all_goals try omega
   clear cc;go_cut [10] (fun s10 wx=>Zy3 d K O.length (.slice s t v) s10 wx)
   case first =>
    have ec:=(zr d.heap.size d).drew;have cu:=(ci.out.below zadq (ec.mono (show B<=d.heap.size by omega)));obtain⟨kn,kc⟩:=Zif cu;have ia:d.drew.cell? ⟨w.heap.size,2,none⟩=some (.slice Ap P.length H):=e2;have ib:d.drew.cell? ⟨w.heap.size,3,none⟩=some (.slice Ak K.length D):=e3;have ir:d.drew.cell? ⟨w3.heap.size,0,none⟩=some (.int .i64 (O.length:Nat)):=t0;have it:d.drew.cell? ⟨w3.heap.size,1,none⟩=some (.slice s t v):=t1;have ej:d.drew.ownsRow d.heap.size 3 1 (.slice none 0 0) 0 []:=zn _ _ _ _;have ig:w.heap.size<d.heap.size:=by omega
    obtain⟨h3,fw,fv,f5⟩:=zz4 cu kn kc ej;clear cu kn kc ej;go_wp2_with fail;refine Canon.wp_region_tree [0,2] (fun b9=>b9=w3.heap.size\/b9=w.heap.size) (.seg [0,1,2] (.alt 3 (.seg [4] (.alt 5 (.alt 6 .fin .no) .no)) (.alt 5 (.alt 3 (.seg [4] (.alt 6 .fin .no)) .no) .no))) mixed (by kernel_rfl) ?_;refine Canon.tr_seg ?_;simp only[zm,zg];go_wp2_with fail;refine Canon.tr_to (Canon.tr_alt ?_ (Canon.tr_one ?_))
    ·simp only[zg];refine zasq rfl (.const (.slice none 0 0)) (.tmp 36) 28 rfl d.heap.size Tryz.underlying28 Zap rfl (by decide) _ 0 [] rfl f5.out Ak K.length D (ivals K) rfl (by unfold ivals;simp) fw.out fv.out (Zgd K) (by omega) (by decide) zl ?_;intro v' w5 q am aj _;rw[Nat.zero_add,List.nil_append]at q;obtain⟨A5,y,rfl,du⟩:=zaeq q;have Y:=ec.trans aj;obtain⟨b4,dl⟩:=zz2 q am;clear q am;go_wp2_with fail;refine Canon.tr_end (fun b9 f=>Y.block b9 (by rcases f with f|f<;>omega)) (Canon.tr_seg ?_);simp only[zm,zg];go_wp2_with fail;refine Canon.tr_to (Canon.tr_one ?_);simp only[zg];go_wp2_with fail;have cd:=Y.size;have fe:=(zr w5.heap.size w5).alloc zl (.cells #[.int .i64 0,.slice none 0 0,.slice none 0 0,.slice none 0 0] 67);have fd:=Y.trans (fe.mono cd);refine Canon.tr_end (fun b9 f=>fd.block b9 (by rcases f with f|f<;>omega)) (Canon.tr_one ?_);simp only[zg];go_wp2_with fail;have ff:=(zr w5.heap.size w5).alloc zl (.cells #[.int .i64 (O.length:Nat),.slice s t v,.slice none 0 0,.slice A5 K.length y] 67);have bq:=Bk.new w5 67 [.int .i64 (O.length:Nat),.slice s t v,.slice none 0 0,.slice A5 K.length y];have cy:=Y.trans (ff.mono cd);have r:=b4.out.alloc (.cells #[.int .i64 (O.length:Nat),.slice s t v,.slice none 0 0,.slice A5 K.length y] 67);have a3:Zy3 d K O.length (.slice s t v) (.pointer (some ⟨w5.heap.size,0,none⟩)) (w5.alloc (.cells #[.int .i64 (O.length:Nat),.slice s t v,.slice none 0 0,.slice A5 K.length y] 67)):=⟨w5.heap.size,A5,y,rfl,cd,bq,r,cy⟩;obtain⟨gq,cr,ag⟩:=zz3 bq r a3;clear bq r a3;refine Canon.tr_end (fun b9 f=>cy.block b9 (by rcases f with f|f<;>omega)) (Canon.tr_fin (by rfl) (zF ⟨.inl ⟨_,rfl,.inl rfl,by rw[zw,t0];rfl⟩,zF ⟨.inl ⟨_,rfl,.inr rfl,by rw[zw,e3];rfl⟩,fun _ h=>by cases h⟩⟩) ?_);go_wp2_with fail;go_meet;exact ag.out
    ·simp only[zg];go_wp2_with fail;have d5:Below d.heap.size d (d.alloc (.cells #[.int .i64 0,.slice none 0 0,.slice none 0 0,.slice none 0 0] 67)).drew:=((zr d.heap.size d).alloc zl _).drew;have c9:Bk (d.alloc (.cells #[.int .i64 0,.slice none 0 0,.slice none 0 0,.slice none 0 0] 67)).drew d.heap.size 67 [.int .i64 0,.slice none 0 0,.slice none 0 0,.slice none 0 0]:=(Bk.new d 67 [.int .i64 0,.slice none 0 0,.slice none 0 0,.slice none 0 0]).drew;have im:d.heap.size+1<=((d.alloc (.cells #[.int .i64 0,.slice none 0 0,.slice none 0 0,.slice none 0 0] 67)).drew).heap.size:=by simp
     have ct:=(ci.out.below zadq (d5.mono (show B<=d.heap.size by omega)));generalize (d.alloc (.cells #[.int .i64 0,.slice none 0 0,.slice none 0 0,.slice none 0 0] 67)).drew=wa at *;obtain⟨dg,df⟩:=Zif ct;have da:wa.ownsRow wa.heap.size 3 1 (.slice none 0 0) 0 []:=zn _ _ _ _;refine Canon.tr_end (fun b9 f=>d5.block b9 (by rcases f with f|f<;>omega)) (Canon.tr_one ?_);simp only[zg];refine zasq rfl (.const (.slice none 0 0)) (.tmp 36) 28 rfl wa.heap.size Tryz.underlying28 Zap rfl (by decide) _ 0 [] rfl da Ak K.length D (ivals K) rfl (by unfold ivals;simp) dg df (Zgd K) (by omega) (by decide) zl ?_;intro v' w5 q am aj _;rw[Nat.zero_add,List.nil_append]at q;obtain⟨A5,y,rfl,du⟩:=zaeq q;have Y:=d5.trans (aj.mono (by omega));have S:=c9.below aj c9.lt;have cd:=aj.size;have s0:w5.cell? ⟨d.heap.size,0,none⟩=some (.int .i64 0):=S.cell 0;have s1:w5.cell? ⟨d.heap.size,1,none⟩=some (.slice none 0 0):=S.cell 1;have s2:w5.cell? ⟨d.heap.size,2,none⟩=some (.slice none 0 0):=S.cell 2;have s3:w5.cell? ⟨d.heap.size,3,none⟩=some (.slice none 0 0):=S.cell 3;have sf:=S.frozen;have d8:=(((S.set 0 (.int .i64 (O.length:Nat))).set 1 (.slice s t v)).set 2 (.slice none 0 0)).set 3 (.slice A5 K.length y);have e9:=(((Y.setCell (p:=⟨d.heap.size,0,none⟩) zl (.int .i64 (O.length:Nat))).setCell (p:=⟨d.heap.size,1,none⟩) zl (.slice s t v)).setCell (p:=⟨d.heap.size,2,none⟩) zl (.slice none 0 0)).setCell (p:=⟨d.heap.size,3,none⟩) zl (.slice A5 K.length y);have ay:=Zol (show d.heap.size<=wa.heap.size by omega) (Zff (Zff (Zff (Zff q (i:=0) (u:=.int .i64 (O.length:Nat)) (show d.heap.size<wa.heap.size by omega)) (i:=1) (u:=.slice s t v) (show d.heap.size<wa.heap.size by omega)) (i:=2) (u:=.slice none 0 0) (show d.heap.size<wa.heap.size by omega)) (i:=3) (u:=.slice A5 K.length y) (show d.heap.size<wa.heap.size by omega));have a3:Zy3 d K O.length (.slice s t v) (.pointer (some ⟨d.heap.size,0,none⟩)) ((((w5.setCell ⟨d.heap.size,0,none⟩ (.int .i64 (O.length:Nat))).setCell ⟨d.heap.size,1,none⟩ (.slice s t v)).setCell ⟨d.heap.size,2,none⟩ (.slice none 0 0)).setCell ⟨d.heap.size,3,none⟩ (.slice A5 K.length y)):=⟨d.heap.size,A5,y,rfl,zl,d8,ay,e9⟩;obtain⟨b4,dl,h5,gr,h6,ft,ag,ha,he,hd,h0⟩:=zz11 q am c9 S d8 ay a3 da dg df ct;clear q am c9 S d8 ay a3 da dg df ct;go_wp2_with fail;refine Canon.tr_end (fun b9 f=>Y.block b9 (by rcases f with f|f<;>omega)) (Canon.tr_seg ?_);simp only[zm,zg];go_wp2_with fail;refine Canon.tr_to (Canon.tr_one ?_);simp only[zg];go_wp2_with fail;refine Canon.tr_end (fun b9 f=>e9.block b9 (by rcases f with f|f<;>omega)) (Canon.tr_fin (by rfl) (zF ⟨.inl ⟨_,rfl,.inl rfl,by rw[zw,t0];rfl⟩,zF ⟨.inl ⟨_,rfl,.inr rfl,by rw[zw,e3];rfl⟩,fun _ h=>by cases h⟩⟩) ?_);go_wp2_with fail;go_meet;exact ag.out
   case rest =>
    obtain⟨z,A2,C,rfl,fh,d7,bg,cz⟩:=hcut;have io:=cz.size;have e0:=fr.out;have cb:wc.ownsRow d.heap.size 74 3 (.slice none 0 0) 0 (Zal (Zee P (O.take 0))):=zn _ _ _ _;have fa:B<=d.heap.size:=by omega
    obtain⟨dm,ce,es,cq⟩:=zz4 d7 bg e0 cb;clear d7 bg e0 cb;go_wp2_with fail;go_loopw[41] (fun iv wr=>∃(k:Nat) (V:Option Addr) (m:Nat),k<=O.length/\iv=.int .i64 (k:Int)/\Bk wr z 67 [.int .i64 (O.length:Nat),.slice s t v,.slice V k m,.slice A2 K.length C]/\wr.ownsRow d.heap.size 3 1 (.slice A2 K.length C) K.length (ivals K)/\wr.ownsRow d.heap.size 74 3 (.slice V k m) k (Zal (Zee P (O.take k)))/\Below d.heap.size d wr) (fun iv _=>O.length-(intOf iv).toNat)
    case atStart=>exact⟨0,none,0,by omega,rfl,dm.out,ce.out,cq.out,cz⟩
    case round =>
     obtain⟨k,V,m,hk,rfl,L,a4,U,ae⟩:=hrel;obtain⟨g,gf⟩:∃g,g=wr:=⟨_,rfl⟩;subst gf;have gh:=ae.size;have b8:=es.out.below zadq ae;have ba:=ew.out.below zaaq (ae.mono fa);have g6:=c7.trans (ae.mono (by omega));have ed:=L.lt;have f2:=(ae.cell (p:=⟨w.heap.size,2,none⟩) (by show w.heap.size<_;omega)).trans e2;by_cases d9:k<O.length
     ·have hv:=ds.out O[k] (zM d9);have cv:=di.out;obtain⟨vn,eo⟩:∃vn:Nat,O[k]=(vn:Int):=⟨O[k].toNat,by omega⟩;have en:vn<P.length:=by omega
      obtain⟨b,o,g0,hb,a1⟩:=b8.int_at d9;subst g0;rw[eo]at a1;obtain⟨bp,op,g3,ih,p1,p2,p3⟩:=ba.tri_at en;subst g3;have em:=ptsOf_take (P:=P) d9 eo en;generalize P[vn]=pt at *;obtain⟨x0,x1,x2⟩:=pt;simp only[]at p1 p2 p3;have q0:g.cell? ⟨z,0,none⟩=some (.int .i64 (O.length:Nat)):=L.cell 0;have q2:g.cell? ⟨z,2,none⟩=some (.slice V k m):=L.cell 2;have iq:g.drew.cell? ⟨z,2,none⟩=some (.slice V k m):=q2;have ic:g.drew.cell? ⟨w.heap.size,2,none⟩=some (.slice (some ⟨bp,op,none⟩) P.length H):=f2;obtain⟨bn,b5,b6,et,ev,f8,gm⟩:=zz7 L a4 U b8 ba em cv;clear L a4 U b8 ba em cv;go_wp2_with fail;refine Canon.wp_region_last 10 [1] (fun b9=>b9=z) (.seg [0,1,2,3,4,5,6] (.alt 7 (.alt 8 (.seg [9] (.alt 10 .fin .no)) .no) .no)) mixed (by kernel_rfl) ?_;refine Canon.trm_seg ?_;simp only[zm,zg];go_wp2_with fail;refine Canon.trm_to (Canon.trm_one ?_);simp only[zg];go_wp2_with fail;have bd:Below g.heap.size g (g.alloc (.cells #[.int .i64 x0,.int .i64 x1,.int .i64 x2] 74)).drew:=((zr g.heap.size g).alloc zl _).drew;have br:Bk (g.alloc (.cells #[.int .i64 x0,.int .i64 x1,.int .i64 x2] 74)).drew g.heap.size 74 [.int .i64 x0,.int .i64 x1,.int .i64 x2]:=(Bk.new g _ _).drew;have ip:g.heap.size+1<=((g.alloc (.cells #[.int .i64 x0,.int .i64 x1,.int .i64 x2] 74)).drew).heap.size:=by simp
      generalize (g.alloc (.cells #[.int .i64 x0,.int .i64 x1,.int .i64 x2] 74)).drew=wl at *;have ca:∀ad,(some ⟨g.heap.size,0,none⟩:Option Addr)=some ad->∀j u,([.int .i64 x0,.int .i64 x1,.int .i64 x2]:List Value)[j]? = some u->wl.cell? (ad.add j)=some u:=fun ad e j u hj=>by
       injection e with e;subst e;rw[Addr.add_lit,Nat.zero_add];exact(br.cell j).trans hj
      have c4:=zafq b6.out bd zl;have c3:=zafq b5.out bd zl;have ea:=bn.out.below bd ed;obtain⟨gs,cp,bm,ch,cm⟩:=zz5 br ca c4 c3 ea;clear br ca c4 c3 ea;refine Canon.trm_end (fun b9 f=>by subst f;exact bd.block _ ed) (Canon.trm_one ?_);simp only[zg];refine zasq rfl (.tmp 46) (.tmp 52) 65 rfl d.heap.size Tryz.underlying65 Zo8 rfl (by decide) _ k (Zal (Zee P (O.take k))) rfl bm.out (some ⟨g.heap.size,0,none⟩) 1 1 [.int .i64 x0,.int .i64 x1,.int .i64 x2] rfl rfl (fun h=>by cases h) cp.out (by simp[Value.oneCell']) (by omega) (by decide) (by omega) ?_;intro v' w6 r aw aj _;obtain⟨A7,ah,rfl,gu⟩:=zaeq r;rw[show Zal (Zee P (O.take k))++[.int .i64 x0,.int .i64 x1,.int .i64 x2]=Zal (Zee P (O.take (k+1))) by rw[f8.out,Zfk]]at r;have g9:some z≠(Value.slice V k m).ownBlock:=by
       rcases Zdq bm.out cm.out (by decide)with f|f
       ·rw[f];simp
       ·exact fun e=>f e.symm
      have ac:=cm.out.grown aw g9;have c2:=ch.out.kept aw (Zbi bm.out ch.out (by decide));have s2:w6.cell? ⟨z,2,none⟩=some (.slice V k m):=ac.cell 2;have sf:=ac.frozen;have e8:=ac.set 2 (.slice A7 (k+1) ah);have dy:=c2.kept (Zar w6 z 2 (.slice A7 (k+1) ah)) (Zdq c2 ac (by decide));have e5:=r.kept (Zar w6 z 2 (.slice A7 (k+1) ah)) (Zdq r ac (by decide));have fg:=((ae.trans (bd.mono gh)).trans aj).setCell (p:=⟨z,2,none⟩) fh (.slice A7 (k+1) ah);have g7:Canon.KeepU (fun b9=>b9=z) g.drew w6:=fun b9 f=>by subst f;exact ac.trans bn.out.symm
      obtain⟨cr,gn,h4,gz,ey,er,eu⟩:=zz7 r aw ac c2 e8 dy e5;clear r aw ac c2 e8 dy e5;refine Canon.trm_end g7 (Canon.trm_seg ?_);simp only[zm,zg];go_wp2_with fail;refine Canon.trm_to (Canon.trm_one ?_);simp only[zg];go_wp2_with fail;refine Canon.trm_last (Canon.trm_fin (by rfl) (zF ⟨.inl ⟨_,rfl,rfl,by rw[zw,q2];rfl⟩,fun _ h=>by cases h⟩) ?_);go_wp2_with fail;exact⟨⟨k+1,A7,ah,by omega,by simp,ey.out,er.out,eu.out,fg⟩,by simp[intOf];omega⟩
     ·obtain rfl:k=O.length:=by omega
      rw[List.take_length]at U;have Q:=bx.out.below ae (by omega);have r0:g.cell? ⟨w.heap.size+1,0,none⟩=some (.int .i64 0):=Q.cell 0;have r1:g.cell? ⟨w.heap.size+1,1,none⟩=some (.slice none 0 0):=Q.cell 1;have r2:g.cell? ⟨w.heap.size+1,2,none⟩=some (.slice none 0 0):=Q.cell 2;have r3:g.cell? ⟨w.heap.size+1,3,none⟩=some (.slice none 0 0):=Q.cell 3;have rf:=Q.frozen;have q0:g.cell? ⟨z,0,none⟩=some (.int .i64 (O.length:Nat)):=L.cell 0;have q1:g.cell? ⟨z,1,none⟩=some (.slice s t v):=L.cell 1;have q2:g.cell? ⟨z,2,none⟩=some (.slice V O.length m):=L.cell 2;have q3:g.cell? ⟨z,3,none⟩=some (.slice A2 K.length C):=L.cell 3;have R:=(((Q.set 0 (.int .i64 (O.length:Nat))).set 1 (.slice s t v)).set 2 (.slice V O.length m)).set 3 (.slice A2 K.length C);have J:=(((g6.setCell (p:=⟨w.heap.size+1,0,none⟩) (by show w.heap.size<=w.heap.size+1;omega) (.int .i64 (O.length:Nat))).setCell (p:=⟨w.heap.size+1,1,none⟩) (by show w.heap.size<=w.heap.size+1;omega) (.slice s t v)).setCell (p:=⟨w.heap.size+1,2,none⟩) (by show w.heap.size<=w.heap.size+1;omega) (.slice V O.length m)).setCell (p:=⟨w.heap.size+1,3,none⟩) (by show w.heap.size<=w.heap.size+1;omega) (.slice A2 K.length C);have dc:g.heap.size<=((((g.setCell ⟨w.heap.size+1,0,none⟩ (.int .i64 (O.length:Nat))).setCell ⟨w.heap.size+1,1,none⟩ (.slice s t v)).setCell ⟨w.heap.size+1,2,none⟩ (.slice V O.length m)).setCell ⟨w.heap.size+1,3,none⟩ (.slice A2 K.length C)).heap.size:=by simp
      have az:∀b,w2.heap.size<=b->((((g.setCell ⟨w.heap.size+1,0,none⟩ (.int .i64 (O.length:Nat))).setCell ⟨w.heap.size+1,1,none⟩ (.slice s t v)).setCell ⟨w.heap.size+1,2,none⟩ (.slice V O.length m)).setCell ⟨w.heap.size+1,3,none⟩ (.slice A2 K.length C)).heap[b]? = g.heap[b]?:=fun b h1 =>
       (Below.heap_setCell _ ⟨w.heap.size+1,3,none⟩ _ b (by show b≠w.heap.size+1;omega)).trans ((Below.heap_setCell _ ⟨w.heap.size+1,2,none⟩ _ b (by show b≠w.heap.size+1;omega)).trans ((Below.heap_setCell _ ⟨w.heap.size+1,1,none⟩ _ b (by show b≠w.heap.size+1;omega)).trans (Below.heap_setCell _ ⟨w.heap.size+1,0,none⟩ _ b (by show b≠w.heap.size+1;omega))))
      generalize ge:(((g.setCell ⟨w.heap.size+1,0,none⟩ (.int .i64 (O.length:Nat))).setCell ⟨w.heap.size+1,1,none⟩ (.slice s t v)).setCell ⟨w.heap.size+1,2,none⟩ (.slice V O.length m)).setCell ⟨w.heap.size+1,3,none⟩ (.slice A2 K.length C)=wF at *;have d6:∀wz:World,(∀b,w.heap.size<=b->b<wF.heap.size->wz.heap[b]? = wF.heap[b]?)->Zot wz N T P K l (.agg #[.int .i64 (O.length:Nat),.slice s t v,.slice V O.length m,.slice A2 K.length C]) (.slice Ao O.length co):=fun wz f=>by
       have h8:∀b,w2.heap.size<=b->b<g.heap.size->wz.heap[b]? = g.heap[b]?:=fun b k1 k2=>(f b (by omega) (by omega)).trans (az b k1)
       obtain⟨sv,hx,g1,g2⟩:=bs.out rfl wz fun b k1 k2=>(h8 b k1 (by omega)).trans ((ae.block b (by omega)).trans (ai.block b k2))
       rw[av.out]at hx g2;injection hx with hx;have hx:=congrArg Array.toList hx;simp only[List.cons.injEq]at hx;obtain⟨_,de,_⟩:=hx;subst de;have gb:(Zee P O).length=O.length:=by unfold Zee;rw[zL]
       have g5:wz.ownsRow d.heap.size 74 3 (.slice V O.length m) (Zee P O).length (Zal (Zee P O)):=by
        rw[gb];exact zaqq U zl fun b k1 k2=>h8 b (by omega) k2
       have g4:=zaqq a4 zl fun b k1 k2=>h8 b (by omega) k2
       refine⟨.slice s t v,.slice V O.length m,.slice A2 K.length C,by rw[av.out],g1,?_,?_,?_⟩
       ·rw[av.out];exact Sl.of_own g5 fun i a hi=>Zeh _ i a hi
       ·exact Sl.of_own g4 fun i a hi=>by
         unfold RInt;have eh:=(zS.1 hi).1;unfold ivals;rw[Nat.mul_one,List.drop_eq_getElem_cons (by simpa using eh)];simp only[List.take_succ_cons,List.take_zero,List.getElem_map];rw[zG eh]at hi;rw[zO hi]
       ·rw[av.out];exact g2
      obtain⟨bn,b5,b6,et,ev,gp,X,W,gt,fu,dk⟩:=zz11 L a4 U b8 ba Q R J dc az d6;clear L a4 U b8 ba Q R J dc az d6;go_wp2_with fail
      try rw[ge]
      refine Zef rfl rfl X.out Tryz.underlying67 rfl (by kernel_rfl) rfl ?_;exact⟨⟨_,_,0,rfl,bo.out,fun f=>absurd rfl f,fun _=>dk.out⟩,W.out⟩
end Go.Proofs.YtpbdcppaiafbgaaGreat
namespace Go.Words
open Go Go.RowKit Go.Mesh
theorem made_zero(n:Nat):madeCells #[Value.int .i64 0,.int .i64 0,.int .i64 0] n=(List.replicate n (Value.int .i64 0)).toArray:=by
 refine Array.ext (by simp[madeCells]) fun i h1 h2=>?_
 have a:i%3=0\/i%3=1\/i%3=2:=by omega
 simp only[madeCells,Array.getElem_map,Array.getElem_range,List.getElem_toArray,List.getElem_replicate];show(#[Value.int .i64 0,.int .i64 0,.int .i64 0])[i%3]! = _;rcases a with h|h|h<;>rw[h]<;>rfl
end Go.Words
namespace Go.Proofs.YtpbdcppaiafbgaaGreat
open Go Go.RowKit Go.Words Go.Mesh
theorem flat3_zero(n:Nat):Zal (List.replicate n ((0:Int),(0:Int),(0:Int)))=List.replicate (n*3) (Value.int .i64 0) :=
 List.eq_replicate_iff.2 ⟨by rw[Za2,List.length_replicate],fun u a=>by
  unfold Zal at a;obtain⟨x,b,a⟩:=List.mem_flatMap.1 a;obtain⟨_,rfl⟩:=List.mem_replicate.1 b;simpa using a⟩
theorem flat3_put(x:T3)(L:List T3):∀m,m<L.length->(((Zal L).set (m*3) (.int .i64 x.1)).set (m*3+1) (.int .i64 x.2.1)).set (m*3+2) (.int .i64 x.2.2)=Zal (L.set m x):=by
 induction L with
 | nil=>intro m h;simp at h
 | cons y L ih =>
  intro m h;cases m with
  | zero=>simp[Zal]
  | succ m =>
   have a:=ih m (by simpa using h);rw[show(m+1)*3=m*3+1+1+1 by omega];simp only[Zal,List.flatMap_cons,List.cons_append,List.nil_append,List.set_cons_succ]at a ⊢;rw[a]
theorem bk_apart{W:World}{g gm:Nat}{cs cs':List Value}(h:Bk W gm 74 cs)(h2:Bk W g 67 cs'):gm≠g:=fun e=>by
 subst e;have h:=zO (h.symm.trans h2);injection h with _ h3;exact absurd h3 (by decide)
theorem Zvo{V:World}{base n g i:Nat}{v u:Value}{xs cs:List Value}(h:V.ownsRow base 3 1 v n xs)(hb:Bk V g 74 cs):(V.setCell ⟨g,i,none⟩ u).ownsRow base 3 1 v n xs :=
 h.kept (Zar V g i u) (Zdq h hb (by decide))
theorem run_make_pts(n:Nat)(hn:n<=1000000)(w:World) :
  (Instr.makeSlice 65 (.int .i64 (n:Int)) (.int .i64 (n:Int))).run Tryz.prog w=.ok (.slice (some ⟨w.heap.size,0,none⟩) n n) (w.alloc (.cells (Zal (List.replicate n ((0:Int),(0:Int),(0:Int)))).toArray 74)):=by
 obtain⟨e,hi,b,c,d⟩:=info_parts Zo8;have h:(e.bytes:Int)*(n:Int)<=281474976710656:=by rw[d];omega
 have a:=run_make (P:=Tryz.prog) w 65 74 e _ Tryz.underlying65 hi b .i64 .i64 n n (by omega) (by omega) h (by omega);simp only[zC]at a;rw[a,c,flat3_zero];have:(Value.agg #[.int .i64 0,.int .i64 0,.int .i64 0]).cells=#[Value.int .i64 0,.int .i64 0,.int .i64 0]:=rfl;rw[this,made_zero]
def JoinLaid(w7:World)(K:List Int)(M:Nat)(xv:Value)(s22:Value)(wx:World):Prop :=
 ∃g22 gm A2 cap2,s22=.pointer (some ⟨g22,0,none⟩)/\w7.heap.size<=g22/\w7.heap.size<=gm/\Bk wx g22 67 [.int .i64 (M:Nat),xv,.slice (some ⟨gm,0,none⟩) M M,.slice A2 K.length cap2] /\
  Bk wx gm 74 (Zal (List.replicate M ((0:Int),(0:Int),(0:Int))))/\wx.ownsRow w7.heap.size 3 1 (.slice A2 K.length cap2) K.length (ivals K)/\Below w7.heap.size w7 wx
theorem JoinLaid.below{w7 wx:World}{K:List Int}{M:Nat}{xv s22:Value}(h:JoinLaid w7 K M xv s22 wx):Below w7.heap.size w7 wx:=by
 obtain⟨_,_,_,_,_,_,_,_,_,_,h⟩:=h;exact h
theorem Zm5{w7 W:World}{K:List Int}{M g gm cap2:Nat}{A2:Option Addr}{xv:Value}(km:Bk W gm 74 (Zal (List.replicate M ((0:Int),(0:Int),(0:Int)))))(kb:Bk W g 67 [.int .i64 0,.slice none 0 0,.slice none 0 0,.slice none 0 0])
  (ko:W.ownsRow w7.heap.size 3 1 (.slice A2 K.length cap2) K.length (ivals K)) (hW:Below w7.heap.size w7 W) (h1:w7.heap.size<=g) (h2:w7.heap.size<=gm) :
  JoinLaid w7 K M xv (.pointer (some ⟨g,0,none⟩)) ((((W.setCell ⟨g,0,none⟩ (.int .i64 (M:Nat))).setCell ⟨g,1,none⟩ xv).setCell ⟨g,2,none⟩ (.slice (some ⟨gm,0,none⟩) M M)).setCell ⟨g,3,none⟩ (.slice A2 K.length cap2)):=by
 have b:gm≠g:=fun e=>by
  subst e;have h:=zO (km.symm.trans kb);injection h with _ h3;exact absurd h3 (by decide)
 have a:∀(V:World) (i:Nat) (u:Value) (cs:List Value),Bk V g 67 cs->V.ownsRow w7.heap.size 3 1 (.slice A2 K.length cap2) K.length (ivals K)->(V.setCell ⟨g,i,none⟩ u).ownsRow w7.heap.size 3 1 (.slice A2 K.length cap2) K.length (ivals K):=fun V i u cs hb h=>h.kept (Zar V g i u) (Zdq h hb (by decide))
 refine⟨g,gm,A2,cap2,rfl,h1,h2,(((kb.set 0 _).set 1 _).set 2 _).set 3 _,(((km.far b _).far b _).far b _).far b _,
  a _ 3 _ _ (((kb.set 0 _).set 1 _).set 2 _) (a _ 2 _ _ ((kb.set 0 _).set 1 _) (a _ 1 _ _ (kb.set 0 _) (a _ 0 _ _ kb ko))),?_⟩
 exact(((hW.setCell (p:=⟨g,0,none⟩) h1 _).setCell (p:=⟨g,1,none⟩) h1 _).setCell (p:=⟨g,2,none⟩) h1 _).setCell (p:=⟨g,3,none⟩) h1 _
