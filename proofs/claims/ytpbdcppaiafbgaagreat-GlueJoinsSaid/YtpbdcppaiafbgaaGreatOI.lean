/- Walks: does a loop part a surface (glue's Side). -/
import Derived.Test.YtpbdcppaiafbgaaGreatOC
import Derived.Test.YtpbdcppaiafbgaaGreatDK
import Derived.Test.YtpbdcppaiafbgaaGreatRZ
set_option maxRecDepth 100000
set_option maxHeartbeats 8000000
namespace Go.Mesh
theorem loop_cut{N:Int}{T:List T3}{l:List Int}(hs:Surf N T)(h:lpN N T l=0)(hf:(newO N T ((lpE l).map nm)).length<=4096):∃Es,CutOk N T (lpE l) Es:=⟨_,hs,Zm7 h,Zpb h,hf,hs.edges_are⟩
end Go.Mesh
namespace Go.Proofs.YtpbdcppaiafbgaaGreat
open Go Go.RowKit Go.Words Go.Mesh
def SideC(N:Int)(T:List T3)(l:List Int)(b:Bool)(c:Int):Prop :=
 (b=false/\c≠0/\((¬Surf N T/\c=11)\/(Surf N T/\((lpN N T l≠0/\c=lpN N T l)\/(lpN N T l=0/\4096<(newO N T ((lpE l).map nm)).length/\c=7))))) \/
  (c=0/\Surf N T/\lpN N T l=0/\(newO N T ((lpE l).map nm)).length<=4096/\∃(ot ox:List Int) (ct cx:Nat),Pt T ot ct T.length/\Pt (newX N T ((lpE l).map nm)) ox cx T.length/\b=decide (ct<cx))
theorem LoopCut.shape2{w':World}{N:Int}{T:List T3}{l:List Int}{x o:Value}{c:Int}(h:LoopCut w' N T l x o c):∃n9 A9 m9 q9,x=.agg #[.int .i64 n9,.slice A9 m9 q9]:=by
 rcases h with⟨_,_,a,b⟩|⟨_,_,_,a,b⟩|⟨_,_,_,_,a,b⟩|⟨_,_,_,_,g,a,b,f⟩
 ·exact⟨_,_,_,_,a⟩
 ·exact⟨_,_,_,_,a⟩
 ·exact⟨_,_,_,_,a⟩
 ·obtain⟨d,e,rfl,_⟩:=b.form;exact⟨_,_,_,_,a⟩
theorem LoopCut.no{w':World}{N:Int}{T:List T3}{l:List Int}{x o:Value}{c:Int}(h:LoopCut w' N T l x o c)(hc:c≠0):SideC N T l false c:=by
 refine .inl ⟨rfl,hc,?_⟩;rcases h with⟨a,b,_⟩|⟨d,a,b,_⟩|⟨d,a,b,e,_⟩|⟨_,a,b,e,_⟩
 ·exact .inl ⟨a,b⟩
 ·exact .inr ⟨d,.inl ⟨a,b⟩⟩
 ·exact .inr ⟨d,.inr ⟨a,b,e⟩⟩
 ·exact absurd e hc
theorem Zr8{w:World}{B:Nat}{sv lv:Value}{N:Int}{T:List T3}{l:List Int}(hB0:B<=w.heap.size)(hT:Sl 3 RTri w B sv T)(hN:I64 N)(hl:Sl 1 RInt w B lv l)(hok:∀x∈l,I64 x)(hll:l.length<=1000) :
  Calls Tryz.prog 49 #[.agg #[.int .i64 N,sv],lv] w fun e w'=>(∃b c,e=.returned (.tuple #[.bool b,.int .i64 c])/\SideC N T l b c)/\Below w.heap.size w w':=by
 obtain⟨A,n,rfl,cu⟩:=hT.form;have af:=(zr w.heap.size w).alloc zl (.cells #[.int .i64 N,.slice A T.length n] 24);have W:=Bk.new w 24 [.int .i64 N,.slice A T.length n];have d8:w.heap.size+1<=(w.alloc (.cells #[.int .i64 N,.slice A T.length n] 24)).heap.size:=by simp
 have ac:=hT.below zaaq (af.mono hB0);have an:=hl.below zadq (af.mono hB0);generalize cc:w.alloc (.cells #[.int .i64 N,.slice A T.length n] 24)=w0 at *;have c0:w0.cell? ⟨w.heap.size,0,none⟩=some (.int .i64 N):=W.cell 0;have c1:w0.cell? ⟨w.heap.size,1,none⟩=some (.slice A T.length n):=W.cell 1;have bd:=Zow (w:=w0) (B:=B) (N:=N) (by omega) ac hN an hok hll;obtain⟨d4,d5,bo,cp,bu,br,cr⟩:=zz7 hT hl ac an W bd hok;clear hT hl ac an W bd hok;go_enter Tryz.func49,Tryz.ntmps49;go_wp2_with fail;clear cc;refine br.out.mono ?_;rintro e k ⟨⟨x,o,c,rfl,hcut,d⟩,R⟩;have ce:=R.size;have U:=af.trans (R.mono (by omega));have f:=bu.out.below R (by omega);obtain⟨n9,A9,m9,q9,rfl⟩:=hcut.shape2;obtain⟨m,a1⟩:∃m,k.alloc (.cells #[.int .i64 n9,.slice A9 m9 q9] 24)=m:=⟨_,rfl⟩;have S:Below k.heap.size k m:=by rw[<- a1];exact(zr k.heap.size k).alloc zl _
 have d9:k.heap.size+1<=m.heap.size:=by rw[<- a1];simp
 have s:=U.trans (S.mono (by omega));have a:=f.below S (by omega);have h:Bk m k.heap.size 24 [.int .i64 n9,.slice A9 m9 q9]:=by rw[<- a1];exact Bk.new k _ _
 have tf:=h.frozen;have t0:m.cell? ⟨k.heap.size,0,none⟩=some (.int .i64 n9):=h.cell 0;have t1:m.cell? ⟨k.heap.size,1,none⟩=some (.slice A9 m9 q9):=h.cell 1;by_cases am:c=0
 case neg =>
  have d7:(c != 0)=true:=bne_iff_ne.2 am;have Y:=hcut.no am;by_cases a2:n9=0/\Value.slice A9 m9 q9=.slice none 0 0
  ·obtain⟨rfl,cb⟩:=a2;injection cb with r G h3;subst r;subst G;subst h3;clear a1;obtain⟨K,L,P,Q,E,F⟩:=zz6 hcut d f a h Y;clear hcut d f a h Y;go_wp2_with fail;go_ret2;exact⟨⟨false,c,rfl,F.out⟩,by first|exact s|exact U.alloc (by omega) _⟩
  ·clear a2;obtain⟨K,L,P,Q,E,F⟩:=zz6 hcut d f a h Y;clear hcut d f a h Y;go_wp2_with fail;go_ret2;exact⟨⟨false,c,rfl,F.out⟩,s⟩
 subst am;obtain⟨xv,hx,hX,_⟩:=d rfl m fun b _ G=>S.block b G
 have b4:Surf N T/\lpN N T l=0/\(newO N T ((lpE l).map nm)).length<=4096:=by
  rcases hcut with⟨_,r,_⟩|⟨_,r,G,_⟩|⟨_,_,_,r,_⟩|⟨r,G,h3,_⟩
  ·exact absurd r (by decide)
  ·exact absurd G.symm r
  ·exact absurd r (by decide)
  ·exact⟨r,G,h3⟩
 obtain⟨hs,H,t⟩:=b4;injection hx with hx;have hx:=congrArg Array.toList hx;simp only[List.cons.injEq]at hx;obtain⟨au,cd,_⟩:=hx;injection au with _ au;subst cd;obtain⟨Es,p⟩:=loop_cut hs H t;have bl:=p.numb.surf hs p.parts t;have bc:(newX N T ((lpE l).map nm)).length=T.length:=p.numb.len;obtain⟨bi,_⟩:=hX.len;have c8:=R.trans (S.mono ce);have ad:=bo.out.below zaaq (c8.mono (show B<=w0.heap.size by omega));have bk:=Zbs (.slice A T.length n) N T m (B:=B) (by omega) ad hN;have e0:m.cell? ⟨w.heap.size,0,none⟩=some (.int .i64 N):=a.cell 0;have e1:m.cell? ⟨w.heap.size,1,none⟩=some (.slice A T.length n):=a.cell 1;have d6:((0:Int)!=0)=false:=rfl;generalize ba:newO N T ((lpE l).map nm)=O at *;generalize bb:newX N T ((lpE l).map nm)=X at *;subst au;obtain⟨K,L,P,Q,E,a8,ax,M,c7,ci,a9,bq⟩:=zz12 hcut d f a h hs H t hX p bl bc;obtain⟨cq,cn,bw,bn,bp⟩:=zz5 bi ad bk ba bb;clear hcut d f a h hs H t hX p bl bc bi ad bk ba bb;go_wp2_with fail;refine bw.out.mono ?_;rintro e q ⟨⟨pv,x1,y1,z1,rfl,y⟩,ag⟩;have cf:=ag.size;have az:=s.trans (ag.mono (by omega));have v:Tab q q.heap.size pv N T:=by
  rcases y with⟨_,i⟩|⟨i,_⟩
  ·exact i
  ·exact absurd a8.out i
 clear y;obtain⟨pt,ca⟩:∃pt,pv=.pointer (some pt):=by
  obtain⟨g,_,_,_,_,_,rfl,_⟩:=v;exact⟨_,rfl⟩
 subst ca;obtain⟨C,aq⟩:∃C,q.alloc (.cells #[.int .i64 x1,.int .i64 y1,.int .i64 z1] 48)=C:=⟨_,rfl⟩;have ah:Below q.heap.size q C:=by rw[<- aq];exact(zr q.heap.size q).alloc zl _
 have da:q.heap.size+1<=C.heap.size:=by rw[<- aq];simp
 have b0:=az.trans (ah.mono (by omega));have b9:=ag.trans (ah.mono cf);have u:=E.out.below b9 (by omega);have s0:C.cell? ⟨k.heap.size,0,none⟩=some (.int .i64 (O.length:Nat)):=u.cell 0;have s1:C.cell? ⟨k.heap.size,1,none⟩=some (.slice A9 m9 q9):=u.cell 1;have ae:=c7.out.below zaaq b9;have a0:=v.below ah zl;have bj:=Zbs (.slice A9 m9 q9) (O.length:Nat) X C (B:=m.heap.size) (by omega) ae (I64.nat (by have:=M.out;omega));obtain⟨cm,aa,ch,co,bv⟩:=zz5 v a0 u ae bj;clear v a0 u ae bj;go_wp2_with fail;clear aq;refine bv.out.mono ?_;rintro e D ⟨⟨bm,x2,y2,z2,rfl,y⟩,ai⟩;have cg:=ai.size;have b1:=b0.trans (ai.mono (by omega));have Z:Tab D D.heap.size bm (O.length:Nat) X:=by
  rcases y with⟨_,i⟩|⟨i,_⟩
  ·exact i
  ·exact absurd a9.out i
 clear y;obtain⟨dd,c6⟩:∃pt,bm=.pointer (some pt):=by
  obtain⟨g,_,_,_,_,_,rfl,_⟩:=Z;exact⟨_,rfl⟩
 subst c6;obtain⟨w6,ar⟩:∃w6,D.alloc (.cells #[.int .i64 x2,.int .i64 y2,.int .i64 z2] 48)=w6:=⟨_,rfl⟩;have aj:Below D.heap.size D w6:=by rw[<- ar];exact(zr D.heap.size D).alloc zl _
 have db:D.heap.size+1<=w6.heap.size:=by rw[<- ar];simp
 have b2:=b1.trans (aj.mono (by omega));have J:=Z.below aj zl;have ap:=aa.out.below ((ai.trans (aj.mono cg)).mono (show q.heap.size<=C.heap.size by omega)) zl;have bg:=Zdv J a9.out;obtain⟨cs,ck,ay,bt⟩:=zz4 Z J ap bg;clear Z J ap bg;go_wp2_with fail;clear ar;refine bt.out.mono ?_;rintro e w7 ⟨⟨ox,cx,rfl,ao⟩,ak⟩;have dc:=ak.size;have b3:=b2.trans (ak.mono (by omega));have I:=ay.out.below (ak.mono (show q.heap.size<=w6.heap.size by omega)) zl;have be:=Zdv I a8.out;rw[bq.out]at ao;obtain⟨cj,bs,bz⟩:=zz3 I be ao;clear I be ao;go_wp2_with fail;refine bs.out.mono ?_;rintro e w8 ⟨⟨ot,ct,rfl,z⟩,c9⟩;have V:=b3.trans (c9.mono (by omega));have j:∀b,b=decide (ct<cx)->SideC N T l b 0:=fun b hb=>.inr ⟨rfl,a8.out,ax.out,by rw[bn.out];exact M.out,ot,ox,ct,cx,z,by rw[bp.out];exact bz.out,hb⟩
 by_cases bh:ct<cx
 ·have i:=j true (zY bh).symm;obtain⟨bx,aw,a7⟩:=zz3 z j i;clear z j i;go_wp2_with fail;all_goals try omega
  go_ret2;exact⟨⟨true,0,by simp<;>omega,a7.out⟩,V⟩
 ·have i:=j false (zN bh).symm;obtain⟨bx,aw,a7⟩:=zz3 z j i;clear z j i;go_wp2_with fail;all_goals try omega
  go_ret2;exact⟨⟨false,0,by simp<;>omega,a7.out⟩,V⟩
