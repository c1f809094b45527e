/- Walks: may a surface be cut along a loop, by the document (ref13's and ref21's Facing, ref45's Loop). Walks: which bodies the laws look at (gypsumlaw45's fits), and which rings are loops (its round). -/
import Derived.Test.YtpbdcppaiafbgaaGreatOC
import Derived.Test.YtpbdcppaiafbgaaGreatIJ
import Derived.Test.YtpbdcppaiafbgaaGreatOB
import Derived.Test.YtpbdcppaiafbgaaGreatOL
set_option maxRecDepth 100000
set_option maxHeartbeats 8000000
namespace Go.Proofs.YtpbdcppaiafbgaaGreat
open Go Go.RowKit Go.Words Go.Mesh
theorem facing13_calls {w:World} {B:Nat} {sv:Value} {N:Int} {T:List T3} (hT:Sl 3 RTri w B sv T) (hB0:B<=w.heap.size) (hfew:T.length<=8192) (a b:Int) :
  Calls Tryz.prog 127 #[.agg #[.int .i64 N,sv],.int .i64 a,.int .i64 b] w fun e w'=>e=.returned (.int .i64 (oi (facing T (a,b))))/\Below w.heap.size w w':=by
 obtain ⟨A,r,rfl,aj⟩:=hT.form;have C:=Bk.new w 24 [.int .i64 N,.slice A T.length r];have J:=(Below.refl w.heap.size w).alloc zl (.cells #[.int .i64 N,.slice A T.length r] 24);have Q:=hT.below keeps_tri (J.mono hB0);have aq:w.heap.size+1<=(w.alloc (.cells #[.int .i64 N,.slice A T.length r] 24)).heap.size:=by simp
 generalize a5:w.alloc (.cells #[.int .i64 N,.slice A T.length r] 24)=G at *;have c1:G.cell? ⟨w.heap.size,1,none⟩=some (.slice A T.length r):=C.cell 1;have a3:=Below.refl G.heap.size G;obtain ⟨ak,V,ac⟩:=zz3 hT Q C;clear hT Q C;go_enter Tryz.func127,Tryz.ntmps127;go_wp2_with fail;clear a5;go_loopw [7] (fun i wr=>∃ m:Nat,m<=T.length/\i=.int .i64 m/\(∀ c,c<3 * m->eg T c≠(a,b))/\Below G.heap.size G wr) (fun i _=>T.length - (intOf i).toNat)
 case atStart=>exact ⟨0,by omega,rfl,fun c hc=>by omega,a3⟩
 case round =>
  obtain ⟨m,hm,rfl,u,l⟩:=hrel;obtain ⟨H,a7⟩:∃ H,H=wr:=⟨_,rfl⟩;subst a7;have a9:=l.size;have Z:=(l.cell (p:=⟨w.heap.size,1,none⟩) (by show w.heap.size<_;omega)).trans c1;by_cases S:m<T.length
  ·have a4:=Below.refl H.heap.size H;have I:=zz u;clear u;go_wp2_with fail;go_loopw [8] (fun j wr=>∃ k:Nat,k<=3/\j=.int .i64 k/\(∀ c,c<3 * m+k->eg T c≠(a,b))/\Below H.heap.size H wr) (fun j _=>3 - (intOf j).toNat)
   case atStart=>exact ⟨0,by omega,rfl,fun c hc=>I.out c (by omega),a4⟩
   case round =>
    obtain ⟨k,hk,rfl,f,t⟩:=hrel;obtain ⟨wk,a6⟩:∃ wk,wk=wr:=⟨_,rfl⟩;subst a6;have ar:=t.size;have n:=l.trans (t.mono a9);have am:=(t.cell (p:=⟨w.heap.size,1,none⟩) (by show w.heap.size<_;omega)).trans Z;by_cases ap:k<3
    ·have D:=V.out.below keeps_tri (n.mono (show B<=G.heap.size by omega));obtain ⟨v,a1⟩:∃ v,(k+1) % 3=v:=⟨_,rfl⟩;obtain ⟨z,a2⟩:∃ z,(k+2) % 3=z:=⟨_,rfl⟩;have X:v<3:=by omega
     have Y:z<3:=by omega
     have e1:((k:Int)+1) % 3=(v:Int):=by omega
     have e2:((k:Int)+2) % 3=(z:Int):=by omega
     have an:((k:Int)+1).tmod 3=(v:Int):=by rw [Int.tmod_eq_emod_of_nonneg (by omega)];exact e1
     have ao:((k:Int)+2).tmod 3=(z:Int):=by rw [Int.tmod_eq_emod_of_nonneg (by omega)];exact e2
     obtain ⟨b1,o1,rfl,ai,q1⟩:=tri_cell3 D S X;obtain ⟨b2,o2,s,_,q2⟩:=tri_cell3 D S Y;injection s with s;injection s with s hA3;subst s;subst hA3;have E:eg T (3 * m+k)=(Mesh.vt T (3 * m+v),Mesh.vt T (3 * m+z)):=by
      unfold eg;rw [show nx (3 * m+k)=3 * m+v by unfold nx;omega,show pv (3 * m+k)=3 * m+z by unfold pv;omega]
     generalize Mesh.vt T (3 * m+v)=x at *;generalize Mesh.vt T (3 * m+z)=y at *;have F:¬ (x=a/\y=b)->∀ c,c<3 * m+(k+1)->eg T c≠(a,b):=fun h9 c hc=>by
      by_cases a0:c=3 * m+k
      ·rw [a0,E];intro e;exact h9 (Prod.mk.inj e)
      ·exact f c (by omega)
     have R:x=a/\y=b->(oi (facing T (a,b)):Int)=3 * (m:Int)+(k:Int):=fun h9=>by
      have:facing T (a,b)=some (3 * m+k):=(leastFrom_some _ _ _ _).2 ⟨by omega,by omega,by rw [E,h9.1,h9.2];simp,fun d _ hd=>by simpa using f d hd⟩;rw [this];show ((3 * m+k:Nat):Int)=_;omega
     have o:=J.trans (n.mono (by omega));clear a1 a2;obtain ⟨ad,ae,M,q,W⟩:=zz5 D E f F R;clear D E f F R;by_cases L:x=a
     ·by_cases P:y=b
      ·have h:=W.out ⟨L,P⟩;subst L;subst P;have U:(x == x)=true:=beq_self_eq_true _;have a8:(y == y)=true:=beq_self_eq_true _;have g:=zz h;clear h;go_wp2_with fail;all_goals try omega
       go_ret;exact ⟨ret_int (by have:=g.out;omega),o⟩
      ·have h:=q.out (fun h9=>P h9.2);subst L;have U:(x == x)=true:=beq_self_eq_true _;have a8:(y == b)=false:=beq_eq_false_iff_ne.2 P;have g:=zz h;clear h;go_wp2_with fail;all_goals try omega
       exact ⟨⟨k+1,by omega,by simp,g.out,t⟩,by simp [intOf];omega⟩
     ·have h:=q.out (fun h9=>L h9.1);have U:(x == a)=false:=beq_eq_false_iff_ne.2 L;have g:=zz h;clear h;go_wp2_with fail;all_goals try omega
      exact ⟨⟨k+1,by omega,by simp,g.out,t⟩,by simp [intOf];omega⟩
    ·obtain rfl:k=3:=by omega
     have K:∀ c,c<3 * (m+1)->eg T c≠(a,b):=fun c hc=>f c (by omega)
     obtain ⟨M,O⟩:=zz2 f K;clear f K;go_wp2_with fail;all_goals try omega
     exact ⟨⟨m+1,by omega,by simp,O.out,n⟩,by simp [intOf];omega⟩
  ·obtain rfl:m=T.length:=by omega
   have h:oi (facing T (a,b)) = -1:=by rw [facing_none.2 u];rfl
   have o:=J.trans (l.mono (by omega));obtain ⟨I,g⟩:=zz2 u h;clear u h;go_wp2_with fail;all_goals try omega
   go_ret;exact ⟨ret_int g.out.symm,o⟩
theorem facing21_calls {w:World} {B:Nat} {sv:Value} {N:Int} {T:List T3} (hT:Sl 3 RTri w B sv T) (hB0:B<=w.heap.size) (hfew:T.length<=8192) (a b:Int) :
  Calls Tryz.prog 89 #[.agg #[.int .i64 N,sv],.int .i64 a,.int .i64 b] w fun e w'=>e=.returned (.int .i64 (oi (facing T (a,b))))/\Below w.heap.size w w':=by
 obtain ⟨A,d,rfl,j⟩:=hT.form;have c:=(Below.refl w.heap.size w).alloc zl (.cells #[.int .i64 N,.slice A T.length d] 24);have l:w.heap.size+1<=(w.alloc (.cells #[.int .i64 N,.slice A T.length d] 24)).heap.size:=by simp
 have f:=facing13_calls (N:=N) (hT.below keeps_tri (c.mono hB0)) (by omega) hfew a b;obtain ⟨k,g⟩:=zz2 hT f;clear hT f;go_enter Tryz.func89,Tryz.ntmps89;go_wp2_with fail;refine g.out.mono ?_;rintro e m ⟨rfl,i⟩;have h:=c.trans (i.mono c.size);go_wp2_with fail;go_ret;exact ⟨rfl,h⟩
theorem oi_neg (o:Option Nat):(oi o:Int)<0↔o=none:=by
 cases o with
 | none=>exact ⟨fun _=>rfl,fun _=>by decide⟩
 | some d =>
  refine ⟨fun h=>absurd h ?_,fun h=>by cases h⟩;show ¬ ((d:Int)<0);omega
theorem tmod_next (k n:Nat):((k:Int)+1).tmod (n:Int)=(((k+1) % n:Nat):Int):=rfl
theorem loop45_calls {w:World} {B:Nat} {sv lv:Value} {N:Int} {T:List T3} {l:List Int} (hB0:B<=w.heap.size) (hT:Sl 3 RTri w B sv T) (hfew:T.length<=8192) (hl:Sl 1 RInt w B lv l) (hll:l.length<=1000000) :
  Calls Tryz.prog 41 #[.agg #[.int .i64 N,sv],lv] w fun e w'=>e=.returned (.int .i64 (lpN N T l))/\Below w.heap.size w w':=by
 obtain ⟨A,I,rfl,dr⟩:=hT.form;obtain ⟨A2,dp,rfl,de⟩:=hl.form;have a6:=Bk.new w 24 [.int .i64 N,.slice A T.length I];have R:=(Below.refl w.heap.size w).alloc zl (.cells #[.int .i64 N,.slice A T.length I] 24);have bx:=hT.below keeps_tri (R.mono hB0);have c3:=hl.below keeps_int (R.mono hB0);have e4:w.heap.size+1<=(w.alloc (.cells #[.int .i64 N,.slice A T.length I] 24)).heap.size:=by simp
 generalize d4:w.alloc (.cells #[.int .i64 N,.slice A T.length I] 24)=g at *;have c0:g.cell? ⟨w.heap.size,0,none⟩=some (.int .i64 N):=a6.cell 0;have c1:g.cell? ⟨w.heap.size,1,none⟩=some (.slice A T.length I):=a6.cell 1;have d2:=Below.refl g.heap.size g;obtain ⟨dv,dw,ca,ae,dd⟩:=zz5 hT hl bx c3 a6;clear hT hl bx c3 a6;go_enter Tryz.func41,Tryz.ntmps41;go_wp2_with fail;clear d4;go_loopw [5] (fun iv wr=>∃ k:Nat,k<=l.length/\iv=.int .i64 (k:Int)/\(∀ v∈l.take k,0<=v/\v<N)/\Below g.heap.size g wr) (fun iv _=>l.length - (intOf iv).toNat)
 case atStart=>exact ⟨0,by omega,rfl,fun v W=>by simp at W,d2⟩
 case round =>
  obtain ⟨k,hk,rfl,F,S⟩:=hrel;obtain ⟨wk,d7⟩:∃ wk,wk=wr:=⟨_,rfl⟩;subst d7;have e7:=S.size;have cv:=(S.cell (p:=⟨w.heap.size,0,none⟩) (by show w.heap.size<_;omega)).trans c0;have U:=R.trans (S.mono (by omega));by_cases ba:k<l.length
  ·obtain ⟨b,o,rfl,hb,a1⟩:=(ae.out.below keeps_int (S.mono (show B<=g.heap.size by omega))).int_at ba;have C:=lpN_rng (N:=N) (T:=T) ba;have E:0<=l[k]/\l[k]<N->∀ v∈l.take (k+1),0<=v/\v<N:=fun G v W=>by
    rw [List.take_succ_eq_append_getElem ba,List.mem_append,List.mem_singleton] at W;rcases W with W | rfl
    ·exact F v W
    ·exact G
   generalize l[k]=x at *;have bw:wk.drew.cell? ⟨b,o+k,none⟩=some (.int .i64 x):=a1;have dl:wk.drew.cell? ⟨w.heap.size,0,none⟩=some (.int .i64 N):=cv;by_cases d9:x<0
   ·have D:=C (.inl d9);obtain ⟨ay,ak,P,n⟩:=zz4 F C E D;clear F C E D;go_wp2_with fail;all_goals try omega
    refine Canon.wp_region_text mixed (by kernel_rfl) ?_;go_wp2_with fail;all_goals try omega
    refine Canon.chk (by rfl) ?_;go_wp2_with fail;all_goals try omega
    go_ret;exact ⟨ret_int n.out.symm,by first | exact U | exact U.drew⟩
   by_cases c9:x<N
   ·have bg:=E ⟨by omega,c9⟩;obtain ⟨ay,ak,P,bq⟩:=zz4 F C E bg;clear F C E bg;go_wp2_with fail;all_goals try omega
    refine Canon.wp_region_text mixed (by kernel_rfl) ?_;go_wp2_with fail;all_goals try omega
    refine Canon.chk (by rfl) ?_;go_wp2_with fail;all_goals try omega
    exact ⟨⟨k+1,by omega,by simp,bq.out,by first | exact S | exact S.drew⟩,by simp [intOf];omega⟩
   ·have D:=C (.inr (by omega));have e3:N<=x:=by omega
    clear c9;obtain ⟨ay,ak,P,n⟩:=zz4 F C E D;clear F C E D;go_wp2_with fail;all_goals try omega
    refine Canon.wp_region_text mixed (by kernel_rfl) ?_;go_wp2_with fail;all_goals try omega
    refine Canon.chk (by rfl) ?_;go_wp2_with fail;all_goals try omega
    go_ret;exact ⟨ret_int n.out.symm,by first | exact U | exact U.drew⟩
  ·obtain rfl:k=l.length:=by omega
   have L:∀ v∈l,0<=v/\v<N:=by
    rw [List.take_length] at F;exact F
   clear F;by_cases h3:l.length<3
   ·have D:lpN N T l=3:=by
     by_cases hn:l.Nodup
     ·exact lpN_few L hn h3
     ·unfold lpN;rw [if_neg (loop_rng L),if_pos hn]
    obtain ⟨H,n⟩:=zz2 L D;clear L D;go_wp2_with fail;all_goals try omega
    go_ret;exact ⟨ret_int n.out.symm,U⟩
   have H:=zz L;clear L;go_wp2_with fail;all_goals try omega
   go_loopw [6] (fun iv wr=>∃ i:Nat,i<=l.length/\iv=.int .i64 (i:Int)/\(l.take i).Nodup/\Below g.heap.size g wr) (fun iv _=>l.length - (intOf iv).toNat)
   case atStart=>exact ⟨0,by omega,rfl,by simp,S⟩
   case round =>
    obtain ⟨i,hi,rfl,aa,ao⟩:=hrel;obtain ⟨wi,d5⟩:∃ wi,wi=wr:=⟨_,rfl⟩;subst d5;have e5:=ao.size;have dq:=R.trans (ao.mono (by omega));by_cases b8:i<l.length
    ·have bj:=lpN_twice (N:=N) (T:=T) H.out b8;have bi:l.take (i+1)=l.take i++[l[i]]:=List.take_succ_eq_append_getElem b8;obtain ⟨s,hs⟩:∃ s,l[i]=s:=⟨_,rfl⟩;rw [hs] at bj bi;obtain ⟨cf,ci,ch,cs⟩:=zz4 aa bj bi hs;clear aa bj bi hs;go_wp2_with fail;go_loopw [7] (fun jv wr=>∃ j:Nat,j<=i/\jv=.int .i64 (j:Int)/\s ∉ l.take j/\Below g.heap.size g wr) (fun jv _=>i - (intOf jv).toNat)
     case atStart=>exact ⟨0,by omega,rfl,by simp,ao⟩
     case round =>
      obtain ⟨j,hj,rfl,O,Y⟩:=hrel;obtain ⟨wj,d6⟩:∃ wj,wj=wr:=⟨_,rfl⟩;subst d6;have e6:=Y.size;have b5:=R.trans (Y.mono (by omega));by_cases cz:j<i
      ·have Z:=ae.out.below keeps_int (Y.mono (show B<=g.heap.size by omega));obtain ⟨b,o,rfl,hb,a1⟩:=Z.int_at b8;obtain ⟨b2,o2,z,_,a2⟩:=Z.int_at (show j<l.length by omega);injection z with z;injection z with z hA3;subst z;subst hA3;rw [cs.out] at a1;have ac:l.take (j+1)=l.take j++[l[j]'(by omega)]:=List.take_succ_eq_append_getElem (by omega);have V:l[j]'(by omega)∈l.take i:=List.mem_take_iff_getElem.2 ⟨j,by omega,rfl⟩;generalize l[j]'(by omega)=y at *;have bw:wj.drew.cell? ⟨b,o+i,none⟩=some (.int .i64 s):=a1;have ct:wj.drew.cell? ⟨b,o+j,none⟩=some (.int .i64 y):=a2;by_cases a0:s=y
       ·have D:=ci.out (a0 ▸ V);subst a0;have d3:(s == s)=true:=beq_self_eq_true _;obtain ⟨ax,ce,cg,bm,n⟩:=zz5 O Z ac V D;clear O Z ac V D;go_wp2_with fail;all_goals try omega
        refine Canon.wp_region_text mixed (by kernel_rfl) ?_;go_wp2_with fail;all_goals try omega
        refine Canon.chk (by rfl) ?_;go_wp2_with fail;go_ret;exact ⟨ret_int n.out.symm,by first | exact b5 | exact b5.drew⟩
       ·have d3:(s == y)=false:=beq_eq_false_iff_ne.2 a0;have be:s ∉ l.take (j+1):=by
         rw [ac,List.mem_append,List.mem_singleton];exact fun G=>G.elim O a0
        obtain ⟨ax,ce,cg,bm,bp,dh⟩:=zz6 O Z ac V be a0;clear O Z ac V be a0;go_wp2_with fail;all_goals try omega
        refine Canon.wp_region_text mixed (by kernel_rfl) ?_;go_wp2_with fail;all_goals try omega
        refine Canon.chk (by rfl) ?_;go_wp2_with fail;exact ⟨⟨j+1,by omega,by simp,bp.out,by first | exact Y | exact Y.drew⟩,by simp [intOf];omega⟩
      ·obtain rfl:j=i:=by omega
       have bc:(l.take (j+1)).Nodup:=by
        rw [ch.out,List.nodup_append];exact ⟨cf.out,by simp,fun a ha b hb e=>O (by rw [List.mem_singleton] at hb;rw [<- hb,<- e];exact ha)⟩
       obtain ⟨ax,bo⟩:=zz2 O bc;clear O bc;go_wp2_with fail;all_goals try omega
       exact ⟨⟨j+1,by omega,by simp,bo.out,Y⟩,by simp [intOf];omega⟩
    ·obtain rfl:i=l.length:=by omega
     have bd:l.Nodup:=by rw [List.take_length] at aa;exact aa
     clear aa;have a3:=zz bd;clear bd;go_wp2_with fail;all_goals try omega
     go_loopw [8,9] (fun rv iv wr=>∃ (m:Nat) (r:Int),m<=l.length/\iv=.int .i64 (m:Int)/\rv=.int .i64 r/\(∀ i,i<m->near T (l.getD i 0) (l.getD ((i+1) % l.length) 0)=true) /\
      (
        (r=0/\∀ i,i<m->(∃ c,facing T (l.getD i 0,l.getD ((i+1) % l.length) 0)=some c)/\∃ d,facing T (l.getD ((i+1) % l.length) 0,l.getD i 0)=some d) \/
        (r=13/\∃ i,i<m/\(facing T (l.getD i 0,l.getD ((i+1) % l.length) 0)=none\/facing T (l.getD ((i+1) % l.length) 0,l.getD i 0)=none)))/\Below g.heap.size g wr) (fun _ iv _=>l.length - (intOf iv).toNat)
     case atStart=>exact ⟨0,0,by omega,rfl,rfl,fun i hi=>by omega,.inl ⟨rfl,fun i hi=>by omega⟩,ao⟩
     case round =>
      obtain ⟨m,r,hm,rfl,rfl,f,K,M⟩:=hrel;obtain ⟨X,d8⟩:∃ X,X=wr:=⟨_,rfl⟩;subst d8;have db:=M.size;have co:=R.trans (M.mono (by omega));have cw:=(M.cell (p:=⟨w.heap.size,0,none⟩) (by show w.heap.size<_;omega)).trans c0;have cx:=(M.cell (p:=⟨w.heap.size,1,none⟩) (by show w.heap.size<_;omega)).trans c1;by_cases bb:m<l.length
      ·have ap:=ae.out.below keeps_int (M.mono (show B<=g.heap.size by omega));obtain ⟨b,o,rfl,hb,a1⟩:=ap.int_at bb;have c6:(m+1) % l.length<l.length:=Nat.mod_lt _ (by omega);obtain ⟨b2,o2,z,_,a2⟩:=ap.int_at c6;injection z with z;injection z with z hA3;subst z;subst hA3;have c4:=lpN_near (N:=N) (T:=T) H.out a3.out h3 bb;have E:near T (l.getD m 0) (l.getD ((m+1) % l.length) 0)=true->∀ i,i<m+1->near T (l.getD i 0) (l.getD ((i+1) % l.length) 0)=true:=fun G i hi=>by
        by_cases e:i=m
        ·subst e;exact G
        ·exact f i (by omega)
       have c7:∀ r',((r'=r/\(∃ c,facing T (l.getD m 0,l.getD ((m+1) % l.length) 0)=some c)/\∃ d,facing T (l.getD ((m+1) % l.length) 0,l.getD m 0)=some d)\/(r'=13/\(facing T (l.getD m 0,l.getD ((m+1) % l.length) 0)=none\/facing T (l.getD ((m+1) % l.length) 0,l.getD m 0)=none))) ->
         (
           (r'=0/\∀ i,i<m+1->(∃ c,facing T (l.getD i 0,l.getD ((i+1) % l.length) 0)=some c)/\∃ d,facing T (l.getD ((i+1) % l.length) 0,l.getD i 0)=some d) \/
           (r'=13/\∃ i,i<m+1/\(facing T (l.getD i 0,l.getD ((i+1) % l.length) 0)=none\/facing T (l.getD ((i+1) % l.length) 0,l.getD i 0)=none))):=fun r' G=>by
        rcases G with ⟨rfl,h8⟩ | ⟨rfl,h8⟩
        ·rcases K with ⟨e,h7⟩ | ⟨e,i,hi,h7⟩
         ·refine .inl ⟨e,fun i hi=>?_⟩;by_cases t:i=m
          ·subst t;exact h8
          ·exact h7 i (by omega)
         ·exact .inr ⟨e,i,by omega,h7⟩
        ·exact .inr ⟨rfl,m,by omega,h8⟩
       have e0:=tmod_next m l.length;have cz:((m:Int)+1) % (l.length:Int)=(((m+1) % l.length:Nat):Int):=(Int.natCast_emod (m+1) l.length).symm;have ds:((l.length:Int) == 0)=false:=by rw [beq_eq_false_iff_ne];omega
       have df:0<(l.length:Int):=by omega
       rw [<- int_getD bb] at a1;rw [<- int_getD c6] at a2;generalize hq:(m+1) % l.length=q at *;generalize l.getD m 0=x at *;generalize l.getD q 0=y at *;have bw:X.drew.cell? ⟨b,o+m,none⟩=some (.int .i64 x):=a1;have ct:X.drew.cell? ⟨b,o+q,none⟩=some (.int .i64 y):=a2;have c2:=ca.out.below keeps_tri (M.mono (show B<=g.heap.size by omega));obtain ⟨dg,av,P,az,cb,aw,br,dx⟩:=zz8 ap c4 E c7 c2 f K hq;clear ap c4 E c7 c2 f K hq;go_wp2_with fail;all_goals try omega
       refine Canon.wp_region_text mixed (by kernel_rfl) ?_;go_wp2_with fail;all_goals try omega
       refine Canon.chk (by rfl) ?_;go_wp2_with fail;have b6:=fun wz (h1:Sl 3 RTri wz B (.slice A T.length I) T) (h2:B<=wz.heap.size)=>facing21_calls (N:=N) h1 h2 hfew x y
       have b7:=fun wz (h1:Sl 3 RTri wz B (.slice A T.length I) T) (h2:B<=wz.heap.size)=>facing21_calls (N:=N) h1 h2 hfew y x
       have bk:=oi_neg (facing T (x,y));have bl:=oi_neg (facing T (y,x));have c5:near T x y=((facing T (x,y)).isSome || (facing T (y,x)).isSome):=rfl;have ai:=av.out;have aj:=P.out;have bh:=az.out;generalize facing T (x,y)=fu at *;generalize facing T (y,x)=fv at *;rw [c5] at ai aj;clear c5 av P az;obtain ⟨u,hu⟩:∃ u,oi fu=u:=⟨_,rfl⟩;obtain ⟨v,W⟩:∃ v,oi fv=v:=⟨_,rfl⟩;rw [hu] at b6 bk;rw [W] at b7 bl;have cy:Below g.heap.size g X.drew.drew:=by first | exact M.drew.drew | exact M
       have bz:Sl 3 RTri X.drew.drew B (.slice A T.length I) T:=(cb.out.drew keeps_tri).drew keeps_tri;have da:g.heap.size<=X.drew.drew.heap.size:=db;have k0:X.drew.drew.cell? ⟨w.heap.size,0,none⟩=some (.int .i64 N):=cw;have k1:X.drew.drew.cell? ⟨w.heap.size,1,none⟩=some (.slice A T.length I):=cx;obtain ⟨bn,am,a4,dy,dz,b0,a5,cc,cd,au⟩:=zz10 ai aj bh hu W bk bl b6 b7 bz;clear ai aj bh hu W bk bl b6 b7 bz;refine Canon.wp_region_tree [4] (fun b9=>b9=w.heap.size) (.seg [0,1,2,4,5,6] (.alt 3 (.alt 7 (.seg [8,9] .fin) .no) .no)) mixed (by kernel_rfl) ?_;generalize X.drew.drew=W0 at *;refine Canon.tr_seg ?_;simp only [zmC,zmN,zgZ,zgS];go_wp2_with fail;refine Canon.tr_to (Canon.tr_one ?_);simp only [zgZ,zgS];go_wp2_with fail;refine (cc.out W0 au.out (by omega)).mono ?_;rintro e W1 ⟨rfl,Q⟩;have cr:=Q.size;go_wp2_with fail;refine Canon.tr_end (fun b9 G=>by subst G;exact Q.block _ (by omega)) (Canon.tr_one ?_);simp only [zgZ,zgS];go_wp2_with fail;refine (cd.out W1 (au.out.below keeps_tri (Q.mono (by omega))) (by omega)).mono ?_;rintro e W2 ⟨rfl,b3⟩;have an:=cy.trans ((Q.trans (b3.mono cr)).mono da);have cn:=R.trans (an.mono (by omega));go_wp2_with fail;refine Canon.tr_end (fun b9 G=>by subst G;exact (b3.block _ (by omega)).trans (Q.block _ (by omega))) (Canon.tr_seg ?_);simp only [zmC,zmN,zgZ,zgS];go_wp2_with fail;refine Canon.tr_to (Canon.tr_fin (by rfl) (zF ⟨.inl ⟨_,rfl,rfl,by rw [k0];rfl⟩,fun _ h=>by cases h⟩) ?_);by_cases c8:u<0
       ·have J:=b0.out.1 c8;by_cases ad:v<0
        ·have t:=a5.out.1 ad;have D:=bn.out (by rw [J,t];rfl);obtain ⟨aq,ar,n⟩:=zz3 J t D;clear J t D;go_wp2_with fail;all_goals try omega
         go_ret;exact ⟨ret_int n.out.symm,cn⟩
        ·have t:fv.isSome=true:=by
          cases fv with
          | none=>exact absurd (a5.out.2 rfl) ad
          | some d=>rfl
         have g1:=am.out (by rw [J,t];rfl);have g2:=a4.out 13 (.inr ⟨rfl,.inl J⟩);obtain ⟨aq,ar,a7,a8⟩:=zz4 J t g1 g2;clear J t g1 g2;go_wp2_with fail;all_goals try omega
         exact ⟨⟨m+1,13,by omega,by simp,rfl,a7.out,a8.out,an⟩,by simp [intOf];omega⟩
       ·have J:∃ c,fu=some c:=by
         cases fu with
         | none=>exact absurd (b0.out.2 rfl) c8
         | some d=>exact ⟨d,rfl⟩
        have g1:=am.out (by obtain ⟨c,rfl⟩:=J;rfl);by_cases ad:v<0
        ·have t:=a5.out.1 ad;have g2:=a4.out 13 (.inr ⟨rfl,.inr t⟩);obtain ⟨aq,ar,a7,a8⟩:=zz4 J t g1 g2;clear J t g1 g2;go_wp2_with fail;all_goals try omega
         exact ⟨⟨m+1,13,by omega,by simp,rfl,a7.out,a8.out,an⟩,by simp [intOf];omega⟩
        ·have t:∃ d,fv=some d:=by
          cases fv with
          | none=>exact absurd (a5.out.2 rfl) ad
          | some d=>exact ⟨d,rfl⟩
         have g2:=a4.out r (.inl ⟨rfl,J,t⟩);obtain ⟨aq,ar,a7,a8⟩:=zz4 J t g1 g2;clear J t g1 g2;go_wp2_with fail;all_goals try omega
         exact ⟨⟨m+1,r,by omega,by simp,rfl,a7.out,a8.out,an⟩,by simp [intOf];omega⟩
      ·obtain rfl:m=l.length:=by omega
       have D:lpN N T l=r:=by
        rcases K with ⟨rfl,G⟩ | ⟨rfl,i,hi,G⟩
        ·exact lpN_ok H.out a3.out h3 f G
        ·exact lpN_rim H.out a3.out h3 f hi G
       obtain ⟨aw,br,n⟩:=zz3 f K D;clear f K D;go_wp2_with fail;all_goals try omega
       go_ret;exact ⟨ret_int n.out.symm,co⟩
open Go Go.RowKit Go.Words Go.Mesh
theorem fits45_calls {w:World} {B:Nat} {sv pv kv:Value} {N:Int} {T P:List T3} {K:List Int} (hB0:B<=w.heap.size) (hT:Sl 3 RTri w B sv T) (hP:Sl 3 RTri w B pv P) (hK:Sl 1 RInt w B kv K) (hN:I64 N) :
  Calls Tryz.prog 46 #[.agg #[.int .i64 N,sv,pv,kv]] w fun e w'=>(∃ X b,e=.returned (.tuple #[X,.bool b])/\(b=true->big45 N T.length P.length K.length=false/\Surf N T/\mayB N T P K=true/\∃ B',Tab w' B' X N T))/\Below w.heap.size w w':=by
 obtain ⟨A,d,rfl,b8⟩:=hT.form;obtain ⟨z,c,rfl,b4⟩:=hP.form;obtain ⟨y,a,rfl,b3⟩:=hK.form;have F:=(Below.refl w.heap.size w).alloc zl (.cells #[.int .i64 N,.slice A T.length d,.slice z P.length c,.slice y K.length a] 67);have k:=Bk.new w 67 [.int .i64 N,.slice A T.length d,.slice z P.length c,.slice y K.length a];have bc:w.heap.size+1<=(w.alloc (.cells #[.int .i64 N,.slice A T.length d,.slice z P.length c,.slice y K.length a] 67)).heap.size:=by simp
 have a5:=hT.below keeps_tri (F.mono hB0);have a4:=hP.below keeps_tri (F.mono hB0);have a0:=hK.below keeps_int (F.mono hB0);generalize az:w.alloc (.cells #[.int .i64 N,.slice A T.length d,.slice z P.length c,.slice y K.length a] 67)=v at *;have c0:v.cell? ⟨w.heap.size,0,none⟩=some (.int .i64 N):=k.cell 0;have c1:v.cell? ⟨w.heap.size,1,none⟩=some (.slice A T.length d):=k.cell 1;have c2:v.cell? ⟨w.heap.size,2,none⟩=some (.slice z P.length c):=k.cell 2;have c3:v.cell? ⟨w.heap.size,3,none⟩=some (.slice y K.length a):=k.cell 3;have V:=great45_calls N A z y T.length P.length K.length d c a v;obtain ⟨bg,S⟩:∃ bg,big45 N T.length P.length K.length=bg:=⟨_,rfl⟩;rw [S] at V;obtain ⟨bb,ba,b9,af,ae,ad,ai,ah,Q⟩:=zz9 hT hP hK a5 a4 a0 k V S;clear hT hP hK a5 a4 a0 k V S;go_enter Tryz.func46,Tryz.ntmps46;go_wp2_with fail;clear az;refine ah.out.mono ?_;rintro e O ⟨rfl,j⟩;have bd:=j.size;have H:=F.trans (j.mono (by omega));cases bg with
 | true =>
  go_wp2_with fail;go_ret2;exact ⟨⟨_,false,rfl,fun h9=>by cases h9⟩,H⟩
 | false =>
 obtain ⟨q1,q2,q3,q4⟩:=small45 Q.out;have l:=ai.out.below j (by omega);have d0:O.cell? ⟨w.heap.size,0,none⟩=some (.int .i64 N):=l.cell 0;have d1:O.cell? ⟨w.heap.size,1,none⟩=some (.slice A T.length d):=l.cell 1;have d2:O.cell? ⟨w.heap.size,2,none⟩=some (.slice z P.length c):=l.cell 2;have d3:O.cell? ⟨w.heap.size,3,none⟩=some (.slice y K.length a):=l.cell 3;have R:=af.out.below keeps_tri (j.mono (show B<=v.heap.size by omega));have a9:=refmay45_calls (w:=O) (B:=B) (N:=N) (by omega) R (ae.out.below keeps_tri (j.mono (show B<=v.heap.size by omega))) (ad.out.below keeps_int (j.mono (show B<=v.heap.size by omega))) (by omega) (by omega) (by omega);obtain ⟨aj,ag,ak⟩:=zz3 l R a9;clear l R a9;go_wp2_with fail;refine ak.out.mono ?_;rintro e w2 ⟨⟨m,rfl,J⟩,G⟩;have be:=G.size;have o:=H.trans (G.mono (by omega));by_cases a8:m=0
 case neg =>
  have u:(m != 0)=true:=bne_iff_ne.2 a8;have b7:=zz J;clear J;go_wp2_with fail;all_goals try omega
  go_ret2;exact ⟨⟨_,false,rfl,fun h9=>by cases h9⟩,o⟩
 subst a8;obtain ⟨hs,u⟩:Surf N T/\mayB N T P K=true:=by
  rcases J with ⟨_,Y⟩ | ⟨D,Y⟩
  ·cases Y
  ·refine ⟨D,?_⟩;cases u:mayB N T P K with
   | true=>rfl
   | false=>rw [u] at Y;cases Y
 clear J;have I:=aj.out.below G (by omega);have f0:w2.cell? ⟨w.heap.size,0,none⟩=some (.int .i64 N):=I.cell 0;have f1:w2.cell? ⟨w.heap.size,1,none⟩=some (.slice A T.length d):=I.cell 1;have aa:=new_calls (.slice A T.length d) N T w2 (B:=B) (by omega) (ag.out.below keeps_tri (G.mono (show B<=O.heap.size by omega))) hN;obtain ⟨b5,Z,am,an⟩:=zz4 I hs u aa;clear I hs u aa;go_wp2_with fail;refine an.out.mono ?_;rintro e f ⟨⟨X,s,C,M,rfl,ac⟩,a6⟩;have b0:=a6.size;have p:Tab f f.heap.size X N T:=ac.elim (fun h9=>h9.2) fun h9=>absurd Z.out h9.1
 obtain ⟨gt,rfl⟩:∃ gt,X=.pointer (some gt):=by
  obtain ⟨g,_,_,_,_,_,rfl,_⟩:=p;exact ⟨_,rfl⟩
 clear ac;obtain ⟨x,L⟩:∃ x,f.alloc (.cells #[.int .i64 s,.int .i64 C,.int .i64 M] 48)=x:=⟨_,rfl⟩;have E:Below f.heap.size f x:=by rw [<- L];exact (Below.refl f.heap.size f).alloc zl _
 have t:Bk x f.heap.size 48 [.int .i64 s,.int .i64 C,.int .i64 M]:=by rw [<- L];exact Bk.new f _ _
 have b1:=E.size;have aq:=a6.trans (E.mono b0);have i:=o.trans (aq.mono o.size);have q:=p.below E zl;have r0:x.drew.cell? ⟨f.heap.size,0,none⟩=some (.int .i64 s):=t.cell 0;have r1:x.drew.cell? ⟨f.heap.size,1,none⟩=some (.int .i64 C):=t.cell 1;have r2:x.drew.cell? ⟨f.heap.size,2,none⟩=some (.int .i64 M):=t.cell 2;have r:=q.below (Below.refl _ _).drew b1;have U:∀ b,(b=true->big45 N T.length P.length K.length=false/\Surf N T/\mayB N T P K=true/\∃ B',Tab x.drew B' (.pointer (some gt)) N T):=fun _ _=>⟨Q.out,Z.out,am.out,_,r⟩
 obtain ⟨b2,aw,ax,b6,h,n⟩:=zz6 p q r t U L;clear p q r t U L;have hq:∀ W,Sem.run Tryz.prog (Op.equalIn 10000 48 (.agg #[.int .i64 0,.int .i64 0,.int .i64 0]) (.agg #[.int .i64 0,.int .i64 0,.int .i64 0])) W=.ok true W:=fun _=>by kernel_rfl
 have hg:∀ W,Sem.run Tryz.prog (eqGuard BinOp.eql 48 (Operand.tmp 20) (Operand.tmp 21) (.agg #[.int .i64 0,.int .i64 0,.int .i64 0]) (.agg #[.int .i64 0,.int .i64 0,.int .i64 0])) W=.ok () W:=fun _=>by kernel_rfl
 rcases (by omega:s≠0\/(s=0/\C≠0)\/(s=0/\C=0/\M≠0)\/(s=0/\C=0/\M=0)) with D | ⟨rfl,D⟩ | ⟨rfl,rfl,D⟩ | ⟨rfl,rfl,rfl⟩
 ·have a7:(s == 0)=false:=by rw [beq_eq_false_iff_ne];exact D
  clear hq hg;go_wp2_with fail;rw [n.out];refine Canon.wp_region_canon [0,1,2,4,3,5] mixed (by kernel_rfl) ?_;simp only [zmC,zmN,zgZ,zgS];go_wp2_with fail;all_goals first | (exfalso;simp_all;done) | skip
  refine Canon.chk (by rfl) ?_;go_wp2_with fail;go_ret2;exact ⟨⟨_,_,rfl,h.out _⟩,i.drew⟩
 ·have a7:(C == 0)=false:=by rw [beq_eq_false_iff_ne];exact D
  clear hq hg;go_wp2_with fail;rw [n.out];refine Canon.wp_region_canon [0,1,2,4,3,5] mixed (by kernel_rfl) ?_;simp only [zmC,zmN,zgZ,zgS];go_wp2_with fail;all_goals first | (exfalso;simp_all;done) | skip
  refine Canon.chk (by rfl) ?_;go_wp2_with fail;go_ret2;exact ⟨⟨_,_,rfl,h.out _⟩,i.drew⟩
 ·have a7:(M == 0)=false:=by rw [beq_eq_false_iff_ne];exact D
  clear hq hg;go_wp2_with fail;rw [n.out];refine Canon.wp_region_canon [0,1,2,4,3,5] mixed (by kernel_rfl) ?_;simp only [zmC,zmN,zgZ,zgS];go_wp2_with fail;all_goals first | (exfalso;simp_all;done) | skip
  refine Canon.chk (by rfl) ?_;go_wp2_with fail;go_ret2;exact ⟨⟨_,_,rfl,h.out _⟩,i.drew⟩
 ·go_wp2_with fail;rw [n.out];refine Canon.wp_region_canon [0,1,2,4,3,5] mixed (by kernel_rfl) ?_;simp only [zmC,zmN,zgZ,zgS];go_wp2_with fail;refine Canon.chk (by rfl) ?_;go_wp2_with fail;go_ret2;exact ⟨⟨_,_,rfl,h.out _⟩,i.drew⟩
theorem round45_calls {w:World} {B:Nat} {tv pv kv sv:Value} {N:Int} {T P:List T3} {K:List Int} (hB0:B<=w.heap.size) (hT:Sl 3 RTri w B sv T) (hP:Sl 3 RTri w B pv P) (hK:Sl 1 RInt w B kv K) {B2:Nat} (ht:Tab w B2 tv N T) (hs:Surf N T) (v:Nat) (hv:v<256) :
  Calls Tryz.prog 47 #[.agg #[.int .i64 N,sv,pv,kv],tv,.int .u8 (v:Int)] w fun e w'=>(∃ lv b,e=.returned (.tuple #[lv,.bool b])/\(b=true->∃ k:Nat,(k:Int)<N/\(v:Int) % N=(k:Int)/\innerAt T N (k:Int)=true/\Sl 1 RInt w' w'.heap.size lv (linkAt T N (k:Int))/\(∀ u∈linkAt T N (k:Int),innerAt T N u=true)/\lpN N T (linkAt T N (k:Int))=0))/\Below w.heap.size w w':=by
 obtain ⟨A,y,rfl,c4⟩:=hT.form;obtain ⟨Ap,s,rfl,bt⟩:=hP.form;obtain ⟨Ak,r,rfl,br⟩:=hK.form;obtain ⟨gt,rfl⟩:∃ gt,tv=.pointer (some gt):=by
  obtain ⟨g,_,_,_,_,_,rfl,_⟩:=ht;exact ⟨_,rfl⟩
 obtain ⟨n,rfl⟩:∃ n:Nat,N=n:=⟨N.toNat,by have:=hs.n0;omega⟩;have Q:=(Below.refl w.heap.size w).alloc zl (.cells #[.int .i64 (n:Int),.slice A T.length y,.slice Ap P.length s,.slice Ak K.length r] 67);have E:=Bk.new w 67 [.int .i64 (n:Int),.slice A T.length y,.slice Ap P.length s,.slice Ak K.length r];have c9:w.heap.size+1<=(w.alloc (.cells #[.int .i64 (n:Int),.slice A T.length y,.slice Ap P.length s,.slice Ak K.length r] 67)).heap.size:=by simp
 have M:=hT.below keeps_tri (Q.mono hB0);have bk:=ht.le;have G:=ht.below Q bk;generalize bn:w.alloc (.cells #[.int .i64 (n:Int),.slice A T.length y,.slice Ap P.length s,.slice Ak K.length r] 67)=w0 at *;have c0:w0.cell? ⟨w.heap.size,0,none⟩=some (.int .i64 (n:Int)):=E.cell 0;by_cases bl:n=0
 ·subst bl;obtain ⟨bg,be,bd,bi,W,a0,Y,f⟩:=zz8 hT hP hK ht M G E hs;clear hT hP hK ht M G E hs;go_enter Tryz.func47,Tryz.ntmps47;go_wp2_with fail;go_ret2;exact ⟨⟨_,false,rfl,fun h9=>by cases h9⟩,by first | exact Q | exact (Below.refl w.heap.size w).alloc zl _⟩
 obtain ⟨k,hk⟩:∃ k,v % n=k:=⟨_,rfl⟩;have c7:k<n:=by rw [<- hk];exact Nat.mod_lt _ (by omega)
 have ba:(v:Int) % (n:Int)=(k:Int):=by rw [<- hk];exact (Int.natCast_emod v n).symm
 have bv:(v:Int).tmod (n:Int)=(k:Int):=by rw [<- hk];rfl
 have c5:((n:Int) == 0)=false:=by rw [beq_eq_false_iff_ne];omega
 have bu:0<(n:Int):=by omega
 have c8:=hs.nmax;have a6:=inner_calls (.inl G) hs (k:Int);obtain ⟨L,l⟩:∃ L,innerAt T (n:Int) (k:Int)=L:=⟨_,rfl⟩;rw [l] at a6;clear hk;obtain ⟨bg,be,bd,bi,W,a0,Y,f,ax,I⟩:=zz10 hT hP hK ht M G E hs a6 l;clear hT hP hK ht M G E hs a6 l;go_enter Tryz.func47,Tryz.ntmps47;go_wp2_with fail;all_goals try omega
 clear bn;refine ax.out.mono ?_;rintro e w1 ⟨rfl,z⟩;have bp:=z.size;have R:=Q.trans (z.mono (by omega));cases L with
 | false =>
  go_wp2_with fail;go_ret2;exact ⟨⟨_,false,rfl,fun h9=>by cases h9⟩,R⟩
 | true =>
 have a8:=Y.out.below z (by omega);have d0:w1.cell? ⟨w.heap.size,0,none⟩=some (.int .i64 (n:Int)):=a8.cell 0;have ag:=a0.out.below z (show B2<=w0.heap.size by omega);have a9:=link_calls (.inl ag) f.out (k:Int);have ar:(linkAt T (n:Int) (k:Int)).length<=1000000:=by
  have h1:=link_len f.out (v:=(k:Int)) (by omega);have h2:=nodup_len (f.out.ring_nodup (k:Int)) (m:=List.range (3 * T.length)) fun x V=>List.mem_range.2 ((f.out.ring_mem (k:Int) x).1 V).1
  rw [List.length_range] at h2;have h3:=f.out.tmax
  split at h1 <;> omega
 obtain ⟨a,aa⟩:∃ a,linkAt T (n:Int) (k:Int)=a:=⟨_,rfl⟩;rw [aa] at a9 ar;obtain ⟨az,b4,b1,J⟩:=zz4 a8 ag a9 aa;clear a8 ag a9 aa;go_wp2_with fail;all_goals try omega
 refine b1.out.mono ?_;rintro e t ⟨⟨lv,rfl,ae⟩,C⟩;have af:Sl 1 RInt t t.heap.size lv a:=sl_ivals ae;obtain ⟨Al,a2,rfl,bs⟩:=af.form;have ca:=C.size;have S:=R.trans (C.mono (by omega));have U:=az.out.below C (by omega);have f0:t.cell? ⟨w.heap.size,0,none⟩=some (.int .i64 (n:Int)):=U.cell 0;have f1:t.cell? ⟨w.heap.size,1,none⟩=some (.slice A T.length y):=U.cell 1;have au:=b4.out.below C (show B2<=w1.heap.size by omega);have bm:=Below.refl t.heap.size t;have b8:B2<=t.heap.size:=by omega
 clear ae;obtain ⟨Z,bx,b5⟩:=zz3 af U au;clear af U au;go_wp2_with fail;go_loopw [36] (fun iv wr=>∃ i:Nat,i<=a.length/\iv=.int .i64 (i:Int)/\(∀ u∈a.take i,innerAt T (n:Int) u=true)/\Below t.heap.size t wr) (fun iv _=>a.length - (intOf iv).toNat)
 case atStart=>exact ⟨0,by omega,rfl,fun u hu=>by simp at hu,bm⟩
 case round =>
  obtain ⟨i,hi,rfl,j,d⟩:=hrel;obtain ⟨H,bo⟩:∃ H,H=wr:=⟨_,rfl⟩;subst bo;have aw:=d.size;have am:=S.trans (d.mono (by omega));by_cases aq:i<a.length
  ·obtain ⟨b,o,rfl,hb,a1⟩:=(Z.out.below keeps_int d).int_at aq;have av:a.take (i+1)=a.take i++[a[i]]:=List.take_succ_eq_append_getElem aq;generalize a[i]=u at *;have a7:=inner_calls (.inl (b5.out.below d b8)) f.out u;obtain ⟨L,l⟩:∃ L,innerAt T (n:Int) u=L:=⟨_,rfl⟩;rw [l] at a7;obtain ⟨q,b6,ay,I⟩:=zz4 j av a7 l;clear j av a7 l;go_wp2_with fail;refine ay.out.mono ?_;rintro e w3 ⟨rfl,D⟩;have a4:=d.trans (D.mono aw);have h:=S.trans (a4.mono (by omega));cases L with
   | false =>
    go_wp2_with fail;go_ret2;exact ⟨⟨_,false,rfl,fun h9=>by cases h9⟩,h⟩
   | true =>
    have O:∀ x∈a.take (i+1),innerAt T (n:Int) x=true:=fun x V=>by
     rw [b6.out,List.mem_append,List.mem_singleton] at V;rcases V with V | rfl
     ·exact q.out x V
     ·exact I.out
    have X:=zz O;clear O;go_wp2_with fail;exact ⟨⟨i+1,by omega,by simp,X.out,a4⟩,by simp [intOf];omega⟩
  ·obtain rfl:i=a.length:=by omega
   rw [List.take_length] at j;have e0:=(d.cell (p:=⟨w.heap.size,0,none⟩) (by show w.heap.size<_;omega)).trans f0;have e1:=(d.cell (p:=⟨w.heap.size,1,none⟩) (by show w.heap.size<_;omega)).trans f1;have b7:=(z.trans (C.mono bp)).trans (d.mono (by omega));have a3:=(W.out.below keeps_tri (b7.mono (show B<=w0.heap.size by omega))).keep keeps_tri (Below.refl _ _) (show B<=H.heap.size by omega);have ad:=(Z.out.below keeps_int d).keep keeps_int (Below.refl _ _) aw;have ac:=loop45_calls (w:=H) (B:=H.heap.size) (N:=(n:Int)) zl a3 (by have:=f.out.tmax;omega) ad ar;obtain ⟨c,hc⟩:∃ c,lpN (n:Int) T a=c:=⟨_,rfl⟩;rw [hc] at ac;obtain ⟨q,bw,b3,b2,bh⟩:=zz5 j a3 ad ac hc;clear j a3 ad ac hc;go_wp2_with fail;all_goals try omega
   refine b2.out.mono ?_;rintro e w3 ⟨rfl,D⟩;have h:=am.trans (D.mono (by omega));have F:Sl 1 RInt w3 w3.heap.size (.slice Al a.length a2) a:=(b3.out.below keeps_int D).keep keeps_int (Below.refl _ _) D.size;by_cases ap:c=0
   ·subst ap;have a5:∃ k:Nat,(k:Int)<(n:Int)/\(v:Int) % (n:Int)=(k:Int)/\innerAt T (n:Int) (k:Int)=true/\Sl 1 RInt w3 w3.heap.size (.slice Al a.length a2) (linkAt T (n:Int) (k:Int))/\(∀ u∈linkAt T (n:Int) (k:Int),innerAt T (n:Int) u=true)/\lpN (n:Int) T (linkAt T (n:Int) (k:Int))=0 :=
     ⟨k,by omega,ba,I.out,by rw [J.out];exact F,by rw [J.out];exact q.out,by rw [J.out];exact bh.out⟩
    obtain ⟨ak,b0⟩:=zz2 a5 F;clear a5 F;go_wp2_with fail;go_ret2;exact ⟨⟨_,true,rfl,fun _=>ak.out⟩,h⟩
   ·have c6:(c == 0)=false:=beq_eq_false_iff_ne.2 ap;have b0:=zz F;clear F;go_wp2_with fail;all_goals try omega
    go_ret2;exact ⟨⟨_,false,rfl,fun h9=>by cases h9⟩,h⟩
end Go.Proofs.YtpbdcppaiafbgaaGreat
