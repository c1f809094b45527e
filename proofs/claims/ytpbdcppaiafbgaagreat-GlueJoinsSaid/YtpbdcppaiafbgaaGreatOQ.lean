/- Walks: may a surface be cut along a loop, by the document. -/
import Derived.Test.YtpbdcppaiafbgaaGreatOL
set_option maxRecDepth 100000
set_option maxHeartbeats 8000000
namespace Go.Proofs.YtpbdcppaiafbgaaGreat
open Go Go.RowKit Go.Words Go.Mesh
open Go Go.RowKit Go.Words Go.Mesh
theorem Zlt{w:World}{B:Nat}{sv pv kv:Value}{N:Int}{T P:List T3}{K:List Int}(hB0:B<=w.heap.size)(hT:Sl 3 RTri w B sv T)(hP:Sl 3 RTri w B pv P)(hK:Sl 1 RInt w B kv K)(hN:I64 N) :
  Calls Tryz.prog 46 #[.agg #[.int .i64 N,sv,pv,kv]] w fun e w'=>(∃X b,e=.returned (.tuple #[X,.bool b])/\(b=true->Zo0 N T.length P.length K.length=false/\Surf N T/\mayB N T P K=true/\∃B',Tab w' B' X N T))/\Below w.heap.size w w':=by
 obtain⟨A,d,rfl,b8⟩:=hT.form;obtain⟨z,c,rfl,b4⟩:=hP.form;obtain⟨y,a,rfl,b3⟩:=hK.form;have F:=(zr w.heap.size w).alloc zl (.cells #[.int .i64 N,.slice A T.length d,.slice z P.length c,.slice y K.length a] 67);have k:=Bk.new w 67 [.int .i64 N,.slice A T.length d,.slice z P.length c,.slice y K.length a];have bc:w.heap.size+1<=(w.alloc (.cells #[.int .i64 N,.slice A T.length d,.slice z P.length c,.slice y K.length a] 67)).heap.size:=by simp
 have a5:=hT.below zaaq (F.mono hB0);have a4:=hP.below zaaq (F.mono hB0);have a0:=hK.below zadq (F.mono hB0);generalize az:w.alloc (.cells #[.int .i64 N,.slice A T.length d,.slice z P.length c,.slice y K.length a] 67)=v at *;have c0:v.cell? ⟨w.heap.size,0,none⟩=some (.int .i64 N):=k.cell 0;have c1:v.cell? ⟨w.heap.size,1,none⟩=some (.slice A T.length d):=k.cell 1;have c2:v.cell? ⟨w.heap.size,2,none⟩=some (.slice z P.length c):=k.cell 2;have c3:v.cell? ⟨w.heap.size,3,none⟩=some (.slice y K.length a):=k.cell 3;have V:=Zo6 N A z y T.length P.length K.length d c a v;obtain⟨bg,S⟩:∃bg,Zo0 N T.length P.length K.length=bg:=⟨_,rfl⟩;rw[S]at V;obtain⟨bb,ba,b9,af,ae,ad,ai,ah,Q⟩:=zz9 hT hP hK a5 a4 a0 k V S;clear hT hP hK a5 a4 a0 k V S;go_enter Tryz.func46,Tryz.ntmps46;go_wp2_with fail;clear az;refine ah.out.mono ?_;rintro e O ⟨rfl,j⟩;have bd:=j.size;have H:=F.trans (j.mono (by omega));cases bg with
 | true =>
  go_wp2_with fail;go_ret2;exact⟨⟨_,false,rfl,fun h9=>by cases h9⟩,H⟩
 | false =>
 obtain⟨q1,q2,q3,q4⟩:=Zv7 Q.out;have l:=ai.out.below j (by omega);have d0:O.cell? ⟨w.heap.size,0,none⟩=some (.int .i64 N):=l.cell 0;have d1:O.cell? ⟨w.heap.size,1,none⟩=some (.slice A T.length d):=l.cell 1;have d2:O.cell? ⟨w.heap.size,2,none⟩=some (.slice z P.length c):=l.cell 2;have d3:O.cell? ⟨w.heap.size,3,none⟩=some (.slice y K.length a):=l.cell 3;have R:=af.out.below zaaq (j.mono (show B<=v.heap.size by omega));have a9:=Zjf (w:=O) (B:=B) (N:=N) (by omega) R (ae.out.below zaaq (j.mono (show B<=v.heap.size by omega))) (ad.out.below zadq (j.mono (show B<=v.heap.size by omega))) (by omega) (by omega) (by omega);obtain⟨aj,ag,ak⟩:=zz3 l R a9;clear l R a9;go_wp2_with fail;refine ak.out.mono ?_;rintro e w2 ⟨⟨m,rfl,J⟩,G⟩;have be:=G.size;have o:=H.trans (G.mono (by omega));by_cases a8:m=0
 case neg =>
  have u:(m != 0)=true:=bne_iff_ne.2 a8;have b7:=zz J;clear J;go_wp2_with fail;all_goals try omega
  go_ret2;exact⟨⟨_,false,rfl,fun h9=>by cases h9⟩,o⟩
 subst a8;obtain⟨hs,u⟩:Surf N T/\mayB N T P K=true:=by
  rcases J with⟨_,Y⟩|⟨D,Y⟩
  ·cases Y
  ·refine⟨D,?_⟩;cases u:mayB N T P K with
   | true=>rfl
   | false=>rw[u]at Y;cases Y
 clear J;have I:=aj.out.below G (by omega);have f0:w2.cell? ⟨w.heap.size,0,none⟩=some (.int .i64 N):=I.cell 0;have f1:w2.cell? ⟨w.heap.size,1,none⟩=some (.slice A T.length d):=I.cell 1;have aa:=Zbs (.slice A T.length d) N T w2 (B:=B) (by omega) (ag.out.below zaaq (G.mono (show B<=O.heap.size by omega))) hN;obtain⟨b5,Z,am,an⟩:=zz4 I hs u aa;clear I hs u aa;go_wp2_with fail;refine an.out.mono ?_;rintro e f ⟨⟨X,s,C,M,rfl,ac⟩,a6⟩;have b0:=a6.size;have p:Tab f f.heap.size X N T:=ac.elim (fun h9=>h9.2) fun h9=>absurd Z.out h9.1
 obtain⟨gt,rfl⟩:∃gt,X=.pointer (some gt):=by
  obtain⟨g,_,_,_,_,_,rfl,_⟩:=p;exact⟨_,rfl⟩
 clear ac;obtain⟨x,L⟩:∃x,f.alloc (.cells #[.int .i64 s,.int .i64 C,.int .i64 M] 48)=x:=⟨_,rfl⟩;have E:Below f.heap.size f x:=by rw[<- L];exact(zr f.heap.size f).alloc zl _
 have t:Bk x f.heap.size 48 [.int .i64 s,.int .i64 C,.int .i64 M]:=by rw[<- L];exact Bk.new f _ _
 have b1:=E.size;have aq:=a6.trans (E.mono b0);have i:=o.trans (aq.mono o.size);have q:=p.below E zl;have r0:x.drew.cell? ⟨f.heap.size,0,none⟩=some (.int .i64 s):=t.cell 0;have r1:x.drew.cell? ⟨f.heap.size,1,none⟩=some (.int .i64 C):=t.cell 1;have r2:x.drew.cell? ⟨f.heap.size,2,none⟩=some (.int .i64 M):=t.cell 2;have r:=q.below (zr _ _).drew b1;have U:∀b,(b=true->Zo0 N T.length P.length K.length=false/\Surf N T/\mayB N T P K=true/\∃B',Tab x.drew B' (.pointer (some gt)) N T):=fun _ _=>⟨Q.out,Z.out,am.out,_,r⟩
 obtain⟨b2,aw,ax,b6,h,n⟩:=zz6 p q r t U L;clear p q r t U L;have hq:∀W,Sem.run Tryz.prog (Op.equalIn 10000 48 (.agg #[.int .i64 0,.int .i64 0,.int .i64 0]) (.agg #[.int .i64 0,.int .i64 0,.int .i64 0])) W=.ok true W:=fun _=>by kernel_rfl
 have hg:∀W,Sem.run Tryz.prog (eqGuard BinOp.eql 48 (Operand.tmp 20) (Operand.tmp 21) (.agg #[.int .i64 0,.int .i64 0,.int .i64 0]) (.agg #[.int .i64 0,.int .i64 0,.int .i64 0])) W=.ok () W:=fun _=>by kernel_rfl
 rcases(by omega:s≠0\/(s=0/\C≠0)\/(s=0/\C=0/\M≠0)\/(s=0/\C=0/\M=0))with D|⟨rfl,D⟩|⟨rfl,rfl,D⟩|⟨rfl,rfl,rfl⟩
 ·have a7:(s==0)=false:=by rw[beq_eq_false_iff_ne];exact D
  clear hq hg;go_wp2_with fail;rw[n.out];refine Canon.wp_region_canon [0,1,2,4,3,5] mixed (by kernel_rfl) ?_;simp only[zm,zg];go_wp2_with fail;all_goals first|(exfalso;simp_all;done)|skip
  refine Canon.chk (by rfl) ?_;go_wp2_with fail;go_ret2;exact⟨⟨_,_,rfl,h.out _⟩,i.drew⟩
 ·have a7:(C==0)=false:=by rw[beq_eq_false_iff_ne];exact D
  clear hq hg;go_wp2_with fail;rw[n.out];refine Canon.wp_region_canon [0,1,2,4,3,5] mixed (by kernel_rfl) ?_;simp only[zm,zg];go_wp2_with fail;all_goals first|(exfalso;simp_all;done)|skip
  refine Canon.chk (by rfl) ?_;go_wp2_with fail;go_ret2;exact⟨⟨_,_,rfl,h.out _⟩,i.drew⟩
 ·have a7:(M==0)=false:=by rw[beq_eq_false_iff_ne];exact D
  clear hq hg;go_wp2_with fail;rw[n.out];refine Canon.wp_region_canon [0,1,2,4,3,5] mixed (by kernel_rfl) ?_;simp only[zm,zg];go_wp2_with fail;all_goals first|(exfalso;simp_all;done)|skip
  refine Canon.chk (by rfl) ?_;go_wp2_with fail;go_ret2;exact⟨⟨_,_,rfl,h.out _⟩,i.drew⟩
 ·go_wp2_with fail;rw[n.out];refine Canon.wp_region_canon [0,1,2,4,3,5] mixed (by kernel_rfl) ?_;simp only[zm,zg];go_wp2_with fail;refine Canon.chk (by rfl) ?_;go_wp2_with fail;go_ret2;exact⟨⟨_,_,rfl,h.out _⟩,i.drew⟩
