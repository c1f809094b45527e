/- Walks: may a surface be cut along a loop, by the document (ref13's and ref21's Facing, ref45's Loop). Walks: which bodies the laws look at (gypsumlaw45's fits), and which rings are loops (its round). -/
import Derived.Test.YtpbdcppaiafbgaaGreatOC
import Derived.Test.YtpbdcppaiafbgaaGreatIJ
import Derived.Test.YtpbdcppaiafbgaaGreatOB
import Derived.Test.YtpbdcppaiafbgaaGreatOL
set_option maxRecDepth 100000
set_option maxHeartbeats 8000000
namespace Go.Proofs.YtpbdcppaiafbgaaGreat
open Go Go.RowKit Go.Words Go.Mesh
theorem facing13_calls {w:World} {B:Nat} {sv:Value} {N:Int} {T:List T3} (hT:Sl 3 RTri w B sv T) (hB0:B<=w.heap.size) (hfew:T.length<=8192) (a b:Int) :
  Calls Tryz.prog 127 #[.agg #[.int .i64 N,sv],.int .i64 a,.int .i64 b] w fun e w'=>e=.returned (.int .i64 (oi (facing T (a,b))))/\Below w.heap.size w w':=by
 obtain ⟨A,r,rfl,aj⟩:=hT.form;have C:=Bk.new w 24 [.int .i64 N,.slice A T.length r];have J:=(Below.refl w.heap.size w).alloc zl (.cells #[.int .i64 N,.slice A T.length r] 24);have Q:=hT.below zaaq (J.mono hB0);have aq:w.heap.size+1<=(w.alloc (.cells #[.int .i64 N,.slice A T.length r] 24)).heap.size:=by simp
 generalize a5:w.alloc (.cells #[.int .i64 N,.slice A T.length r] 24)=G at *;have c1:G.cell? ⟨w.heap.size,1,none⟩=some (.slice A T.length r):=C.cell 1;have a3:=Below.refl G.heap.size G;obtain ⟨ak,V,ac⟩:=zz3 hT Q C;clear hT Q C;go_enter Tryz.func127,Tryz.ntmps127;go_wp2_with fail;clear a5;go_loopw [7] (fun i wr=>∃ m:Nat,m<=T.length/\i=.int .i64 m/\(∀ c,c<3 * m->eg T c≠(a,b))/\Below G.heap.size G wr) (fun i _=>T.length - (intOf i).toNat)
 case atStart=>exact ⟨0,by omega,rfl,fun c hc=>by omega,a3⟩
 case round =>
  obtain ⟨m,hm,rfl,u,l⟩:=hrel;obtain ⟨H,a7⟩:∃ H,H=wr:=⟨_,rfl⟩;subst a7;have a9:=l.size;have Z:=(l.cell (p:=⟨w.heap.size,1,none⟩) (by show w.heap.size<_;omega)).trans c1;by_cases S:m<T.length
  ·have a4:=Below.refl H.heap.size H;have I:=zz u;clear u;go_wp2_with fail;go_loopw [8] (fun j wr=>∃ k:Nat,k<=3/\j=.int .i64 k/\(∀ c,c<3 * m+k->eg T c≠(a,b))/\Below H.heap.size H wr) (fun j _=>3 - (intOf j).toNat)
   case atStart=>exact ⟨0,by omega,rfl,fun c hc=>I.out c (by omega),a4⟩
   case round =>
    obtain ⟨k,hk,rfl,f,t⟩:=hrel;obtain ⟨wk,a6⟩:∃ wk,wk=wr:=⟨_,rfl⟩;subst a6;have ar:=t.size;have n:=l.trans (t.mono a9);have am:=(t.cell (p:=⟨w.heap.size,1,none⟩) (by show w.heap.size<_;omega)).trans Z;by_cases ap:k<3
    ·have D:=V.out.below zaaq (n.mono (show B<=G.heap.size by omega));obtain ⟨v,a1⟩:∃ v,(k+1) % 3=v:=⟨_,rfl⟩;obtain ⟨z,a2⟩:∃ z,(k+2) % 3=z:=⟨_,rfl⟩;have X:v<3:=by omega
     have Y:z<3:=by omega
     have e1:((k:Int)+1) % 3=(v:Int):=by omega
     have e2:((k:Int)+2) % 3=(z:Int):=by omega
     have an:((k:Int)+1).tmod 3=(v:Int):=by rw [Int.tmod_eq_emod_of_nonneg (by omega)];exact e1
     have ao:((k:Int)+2).tmod 3=(z:Int):=by rw [Int.tmod_eq_emod_of_nonneg (by omega)];exact e2
     obtain ⟨b1,o1,rfl,ai,q1⟩:=tri_cell3 D S X;obtain ⟨b2,o2,s,_,q2⟩:=tri_cell3 D S Y;injection s with s;injection s with s hA3;subst s;subst hA3;have E:eg T (3 * m+k)=(Mesh.vt T (3 * m+v),Mesh.vt T (3 * m+z)):=by
      unfold eg;rw [show nx (3 * m+k)=3 * m+v by unfold nx;omega,show pv (3 * m+k)=3 * m+z by unfold pv;omega]
     generalize Mesh.vt T (3 * m+v)=x at *;generalize Mesh.vt T (3 * m+z)=y at *;have F:¬ (x=a/\y=b)->∀ c,c<3 * m+(k+1)->eg T c≠(a,b):=fun h9 c hc=>by
      by_cases a0:c=3 * m+k
      ·rw [a0,E];intro e;exact h9 (Prod.mk.inj e)
      ·exact f c (by omega)
     have R:x=a/\y=b->(oi (facing T (a,b)):Int)=3 * (m:Int)+(k:Int):=fun h9=>by
      have:facing T (a,b)=some (3 * m+k):=(zamq _ _ _ _).2 ⟨by omega,by omega,by rw [E,h9.1,h9.2];simp,fun d _ hd=>by simpa using f d hd⟩;rw [this];show ((3 * m+k:Nat):Int)=_;omega
     have o:=J.trans (n.mono (by omega));clear a1 a2;obtain ⟨ad,ae,M,q,W⟩:=zz5 D E f F R;clear D E f F R;by_cases L:x=a
     ·by_cases P:y=b
      ·have h:=W.out ⟨L,P⟩;subst L;subst P;have U:(x == x)=true:=beq_self_eq_true _;have a8:(y == y)=true:=beq_self_eq_true _;have g:=zz h;clear h;go_wp2_with fail;all_goals try omega
       go_ret;exact ⟨ret_int (by have:=g.out;omega),o⟩
      ·have h:=q.out (fun h9=>P h9.2);subst L;have U:(x == x)=true:=beq_self_eq_true _;have a8:(y == b)=false:=beq_eq_false_iff_ne.2 P;have g:=zz h;clear h;go_wp2_with fail;all_goals try omega
       exact ⟨⟨k+1,by omega,by simp,g.out,t⟩,by simp [intOf];omega⟩
     ·have h:=q.out (fun h9=>L h9.1);have U:(x == a)=false:=beq_eq_false_iff_ne.2 L;have g:=zz h;clear h;go_wp2_with fail;all_goals try omega
      exact ⟨⟨k+1,by omega,by simp,g.out,t⟩,by simp [intOf];omega⟩
    ·obtain rfl:k=3:=by omega
     have K:∀ c,c<3 * (m+1)->eg T c≠(a,b):=fun c hc=>f c (by omega)
     obtain ⟨M,O⟩:=zz2 f K;clear f K;go_wp2_with fail;all_goals try omega
     exact ⟨⟨m+1,by omega,by simp,O.out,n⟩,by simp [intOf];omega⟩
  ·obtain rfl:m=T.length:=by omega
   have h:oi (facing T (a,b)) = -1:=by rw [facing_none.2 u];rfl
   have o:=J.trans (l.mono (by omega));obtain ⟨I,g⟩:=zz2 u h;clear u h;go_wp2_with fail;all_goals try omega
   go_ret;exact ⟨ret_int g.out.symm,o⟩
theorem facing21_calls {w:World} {B:Nat} {sv:Value} {N:Int} {T:List T3} (hT:Sl 3 RTri w B sv T) (hB0:B<=w.heap.size) (hfew:T.length<=8192) (a b:Int) :
  Calls Tryz.prog 89 #[.agg #[.int .i64 N,sv],.int .i64 a,.int .i64 b] w fun e w'=>e=.returned (.int .i64 (oi (facing T (a,b))))/\Below w.heap.size w w':=by
 obtain ⟨A,d,rfl,j⟩:=hT.form;have c:=(Below.refl w.heap.size w).alloc zl (.cells #[.int .i64 N,.slice A T.length d] 24);have l:w.heap.size+1<=(w.alloc (.cells #[.int .i64 N,.slice A T.length d] 24)).heap.size:=by simp
 have f:=facing13_calls (N:=N) (hT.below zaaq (c.mono hB0)) (by omega) hfew a b;obtain ⟨k,g⟩:=zz2 hT f;clear hT f;go_enter Tryz.func89,Tryz.ntmps89;go_wp2_with fail;refine g.out.mono ?_;rintro e m ⟨rfl,i⟩;have h:=c.trans (i.mono c.size);go_wp2_with fail;go_ret;exact ⟨rfl,h⟩
theorem oi_neg (o:Option Nat):(oi o:Int)<0↔o=none:=by
 cases o with
 | none=>exact ⟨fun _=>rfl,fun _=>by decide⟩
 | some d =>
  refine ⟨fun h=>absurd h ?_,fun h=>by cases h⟩;show ¬ ((d:Int)<0);omega
theorem tmod_next (k n:Nat):((k:Int)+1).tmod (n:Int)=(((k+1) % n:Nat):Int):=rfl
theorem loop45_calls {w:World} {B:Nat} {sv lv:Value} {N:Int} {T:List T3} {l:List Int} (hB0:B<=w.heap.size) (hT:Sl 3 RTri w B sv T) (hfew:T.length<=8192) (hl:Sl 1 RInt w B lv l) (hll:l.length<=1000000) :
  Calls Tryz.prog 41 #[.agg #[.int .i64 N,sv],lv] w fun e w'=>e=.returned (.int .i64 (lpN N T l))/\Below w.heap.size w w':=by
 obtain ⟨A,I,rfl,dq⟩:=hT.form;obtain ⟨A2,dm,rfl,dd⟩:=hl.form;have a6:=Bk.new w 24 [.int .i64 N,.slice A T.length I];have R:=(Below.refl w.heap.size w).alloc zl (.cells #[.int .i64 N,.slice A T.length I] 24);have bw:=hT.below zaaq (R.mono hB0);have c2:=hl.below zadq (R.mono hB0);have e3:w.heap.size+1<=(w.alloc (.cells #[.int .i64 N,.slice A T.length I] 24)).heap.size:=by simp
 generalize d3:w.alloc (.cells #[.int .i64 N,.slice A T.length I] 24)=g at *;have c0:g.cell? ⟨w.heap.size,0,none⟩=some (.int .i64 N):=a6.cell 0;have c1:g.cell? ⟨w.heap.size,1,none⟩=some (.slice A T.length I):=a6.cell 1;have d1:=Below.refl g.heap.size g;obtain ⟨du,dv,c9,ae,dc⟩:=zz5 hT hl bw c2 a6;clear hT hl bw c2 a6;go_enter Tryz.func41,Tryz.ntmps41;go_wp2_with fail;clear d3;go_loopw [5] (fun iv wr=>∃ k:Nat,k<=l.length/\iv=.int .i64 (k:Int)/\(∀ v∈l.take k,0<=v/\v<N)/\Below g.heap.size g wr) (fun iv _=>l.length - (intOf iv).toNat)
 case atStart=>exact ⟨0,by omega,rfl,fun v W=>by simp at W,d1⟩
 case round =>
  obtain ⟨k,hk,rfl,F,S⟩:=hrel;obtain ⟨wk,d6⟩:∃ wk,wk=wr:=⟨_,rfl⟩;subst d6;have e6:=S.size;have cu:=(S.cell (p:=⟨w.heap.size,0,none⟩) (by show w.heap.size<_;omega)).trans c0;have U:=R.trans (S.mono (by omega));by_cases b8:k<l.length
  ·obtain ⟨b,o,rfl,hb,a1⟩:=(ae.out.below zadq (S.mono (show B<=g.heap.size by omega))).int_at b8;have C:=lpN_rng (N:=N) (T:=T) b8;have E:0<=l[k]/\l[k]<N->∀ v∈l.take (k+1),0<=v/\v<N:=fun G v W=>by
    rw [List.take_succ_eq_append_getElem b8,List.mem_append,List.mem_singleton] at W;rcases W with W | rfl
    ·exact F v W
    ·exact G
   generalize l[k]=x at *;have bv:wk.drew.cell? ⟨b,o+k,none⟩=some (.int .i64 x):=a1;have dk:wk.drew.cell? ⟨w.heap.size,0,none⟩=some (.int .i64 N):=cu;by_cases d8:x<0
   ·have D:=C (.inl d8);obtain ⟨ax,aj,P,n⟩:=zz4 F C E D;clear F C E D;go_wp2_with fail;all_goals try omega
    refine Canon.wp_region_text mixed (by kernel_rfl) ?_;go_wp2_with fail;all_goals try omega
    refine Canon.chk (by rfl) ?_;go_wp2_with fail;all_goals try omega
    go_ret;exact ⟨ret_int n.out.symm,by first | exact U | exact U.drew⟩
   by_cases c8:x<N
   ·have be:=E ⟨by omega,c8⟩;obtain ⟨ax,aj,P,bp⟩:=zz4 F C E be;clear F C E be;go_wp2_with fail;all_goals try omega
    refine Canon.wp_region_text mixed (by kernel_rfl) ?_;go_wp2_with fail;all_goals try omega
    refine Canon.chk (by rfl) ?_;go_wp2_with fail;all_goals try omega
    exact ⟨⟨k+1,by omega,by simp,bp.out,by first | exact S | exact S.drew⟩,by simp [intOf];omega⟩
   ·have D:=C (.inr (by omega));have e0:N<=x:=by omega
    clear c8;obtain ⟨ax,aj,P,n⟩:=zz4 F C E D;clear F C E D;go_wp2_with fail;all_goals try omega
    refine Canon.wp_region_text mixed (by kernel_rfl) ?_;go_wp2_with fail;all_goals try omega
    refine Canon.chk (by rfl) ?_;go_wp2_with fail;all_goals try omega
    go_ret;exact ⟨ret_int n.out.symm,by first | exact U | exact U.drew⟩
  ·obtain rfl:k=l.length:=by omega
   have L:∀ v∈l,0<=v/\v<N:=by
    rw [List.take_length] at F;exact F
   clear F;by_cases h3:l.length<3
   ·have D:lpN N T l=3:=by
     by_cases hn:l.Nodup
     ·exact lpN_few L hn h3
     ·unfold lpN;rw [if_neg (loop_rng L),if_pos hn]
    obtain ⟨H,n⟩:=zz2 L D;clear L D;go_wp2_with fail;all_goals try omega
    go_ret;exact ⟨ret_int n.out.symm,U⟩
   have H:=zz L;clear L;go_wp2_with fail;all_goals try omega
   go_loopw [6] (fun iv wr=>∃ i:Nat,i<=l.length/\iv=.int .i64 (i:Int)/\(l.take i).Nodup/\Below g.heap.size g wr) (fun iv _=>l.length - (intOf iv).toNat)
   case atStart=>exact ⟨0,by omega,rfl,by simp,S⟩
   case round =>
    obtain ⟨i,hi,rfl,aa,an⟩:=hrel;obtain ⟨wi,d4⟩:∃ wi,wi=wr:=⟨_,rfl⟩;subst d4;have e4:=an.size;have dp:=R.trans (an.mono (by omega));by_cases b7:i<l.length
    ·have bi:=lpN_twice (N:=N) (T:=T) H.out b7;have bh:l.take (i+1)=l.take i++[l[i]]:=List.take_succ_eq_append_getElem b7;obtain ⟨s,hs⟩:∃ s,l[i]=s:=⟨_,rfl⟩;rw [hs] at bi bh;obtain ⟨ce,ch,cg,cr⟩:=zz4 aa bi bh hs;clear aa bi bh hs;go_wp2_with fail;go_loopw [7] (fun jv wr=>∃ j:Nat,j<=i/\jv=.int .i64 (j:Int)/\s ∉ l.take j/\Below g.heap.size g wr) (fun jv _=>i - (intOf jv).toNat)
     case atStart=>exact ⟨0,by omega,rfl,by simp,an⟩
     case round =>
      obtain ⟨j,hj,rfl,O,Y⟩:=hrel;obtain ⟨wj,d5⟩:∃ wj,wj=wr:=⟨_,rfl⟩;subst d5;have e5:=Y.size;have b4:=R.trans (Y.mono (by omega));by_cases cy:j<i
      ·have Z:=ae.out.below zadq (Y.mono (show B<=g.heap.size by omega));obtain ⟨b,o,rfl,hb,a1⟩:=Z.int_at b7;obtain ⟨b2,o2,z,_,a2⟩:=Z.int_at (show j<l.length by omega);injection z with z;injection z with z hA3;subst z;subst hA3;rw [cr.out] at a1;have ac:l.take (j+1)=l.take j++[l[j]'(by omega)]:=List.take_succ_eq_append_getElem (by omega);have V:l[j]'(by omega)∈l.take i:=List.mem_take_iff_getElem.2 ⟨j,by omega,rfl⟩;generalize l[j]'(by omega)=y at *;have bv:wj.drew.cell? ⟨b,o+i,none⟩=some (.int .i64 s):=a1;have cs:wj.drew.cell? ⟨b,o+j,none⟩=some (.int .i64 y):=a2;by_cases a0:s=y
       ·have D:=ch.out (a0 ▸ V);subst a0;have d2:(s == s)=true:=beq_self_eq_true _;obtain ⟨aw,cd,cf,bl,n⟩:=zz5 O Z ac V D;clear O Z ac V D;go_wp2_with fail;all_goals try omega
        refine Canon.wp_region_text mixed (by kernel_rfl) ?_;go_wp2_with fail;all_goals try omega
        refine Canon.chk (by rfl) ?_;go_wp2_with fail;go_ret;exact ⟨ret_int n.out.symm,by first | exact b4 | exact b4.drew⟩
       ·have d2:(s == y)=false:=beq_eq_false_iff_ne.2 a0;have bd:s ∉ l.take (j+1):=by
         rw [ac,List.mem_append,List.mem_singleton];exact fun G=>G.elim O a0
        obtain ⟨aw,cd,cf,bl,bo,dg⟩:=zz6 O Z ac V bd a0;clear O Z ac V bd a0;go_wp2_with fail;all_goals try omega
        refine Canon.wp_region_text mixed (by kernel_rfl) ?_;go_wp2_with fail;all_goals try omega
        refine Canon.chk (by rfl) ?_;go_wp2_with fail;exact ⟨⟨j+1,by omega,by simp,bo.out,by first | exact Y | exact Y.drew⟩,by simp [intOf];omega⟩
      ·obtain rfl:j=i:=by omega
       have bb:(l.take (j+1)).Nodup:=by
        rw [cg.out,List.nodup_append];exact ⟨ce.out,by simp,fun a ha b hb e=>O (by rw [List.mem_singleton] at hb;rw [<- hb,<- e];exact ha)⟩
       obtain ⟨aw,bn⟩:=zz2 O bb;clear O bb;go_wp2_with fail;all_goals try omega
       exact ⟨⟨j+1,by omega,by simp,bn.out,Y⟩,by simp [intOf];omega⟩
    ·obtain rfl:i=l.length:=by omega
     have bc:l.Nodup:=by rw [List.take_length] at aa;exact aa
     clear aa;have a3:=zz bc;clear bc;go_wp2_with fail;all_goals try omega
     go_loopw [8,9] (fun rv iv wr=>∃ (m:Nat) (r:Int),m<=l.length/\iv=.int .i64 (m:Int)/\rv=.int .i64 r/\(∀ i,i<m->near T (l.getD i 0) (l.getD ((i+1) % l.length) 0)=true) /\
      (
        (r=0/\∀ i,i<m->(∃ c,facing T (l.getD i 0,l.getD ((i+1) % l.length) 0)=some c)/\∃ d,facing T (l.getD ((i+1) % l.length) 0,l.getD i 0)=some d) \/
        (r=13/\∃ i,i<m/\(facing T (l.getD i 0,l.getD ((i+1) % l.length) 0)=none\/facing T (l.getD ((i+1) % l.length) 0,l.getD i 0)=none)))/\Below g.heap.size g wr) (fun _ iv _=>l.length - (intOf iv).toNat)
     case atStart=>exact ⟨0,0,by omega,rfl,rfl,fun i hi=>by omega,.inl ⟨rfl,fun i hi=>by omega⟩,an⟩
     case round =>
      obtain ⟨m,r,hm,rfl,rfl,f,K,M⟩:=hrel;obtain ⟨X,d7⟩:∃ X,X=wr:=⟨_,rfl⟩;subst d7;have da:=M.size;have cn:=R.trans (M.mono (by omega));have cv:=(M.cell (p:=⟨w.heap.size,0,none⟩) (by show w.heap.size<_;omega)).trans c0;have cw:=(M.cell (p:=⟨w.heap.size,1,none⟩) (by show w.heap.size<_;omega)).trans c1;by_cases ba:m<l.length
      ·have ao:=ae.out.below zadq (M.mono (show B<=g.heap.size by omega));obtain ⟨b,o,rfl,hb,a1⟩:=ao.int_at ba;have c5:(m+1) % l.length<l.length:=Nat.mod_lt _ (by omega);obtain ⟨b2,o2,z,_,a2⟩:=ao.int_at c5;injection z with z;injection z with z hA3;subst z;subst hA3;have c3:=lpN_near (N:=N) (T:=T) H.out a3.out h3 ba;have E:near T (l.getD m 0) (l.getD ((m+1) % l.length) 0)=true->∀ i,i<m+1->near T (l.getD i 0) (l.getD ((i+1) % l.length) 0)=true:=fun G i hi=>by
        by_cases e:i=m
        ·subst e;exact G
        ·exact f i (by omega)
       have c6:∀ r',((r'=r/\(∃ c,facing T (l.getD m 0,l.getD ((m+1) % l.length) 0)=some c)/\∃ d,facing T (l.getD ((m+1) % l.length) 0,l.getD m 0)=some d)\/(r'=13/\(facing T (l.getD m 0,l.getD ((m+1) % l.length) 0)=none\/facing T (l.getD ((m+1) % l.length) 0,l.getD m 0)=none))) ->
         (
           (r'=0/\∀ i,i<m+1->(∃ c,facing T (l.getD i 0,l.getD ((i+1) % l.length) 0)=some c)/\∃ d,facing T (l.getD ((i+1) % l.length) 0,l.getD i 0)=some d) \/
           (r'=13/\∃ i,i<m+1/\(facing T (l.getD i 0,l.getD ((i+1) % l.length) 0)=none\/facing T (l.getD ((i+1) % l.length) 0,l.getD i 0)=none))):=fun r' G=>by
        rcases G with ⟨rfl,h8⟩ | ⟨rfl,h8⟩
        ·rcases K with ⟨e,h7⟩ | ⟨e,i,hi,h7⟩
         ·refine .inl ⟨e,fun i hi=>?_⟩;by_cases t:i=m
          ·subst t;exact h8
          ·exact h7 i (by omega)
         ·exact .inr ⟨e,i,by omega,h7⟩
        ·exact .inr ⟨rfl,m,by omega,h8⟩
       have dz:=tmod_next m l.length;have cy:((m:Int)+1) % (l.length:Int)=(((m+1) % l.length:Nat):Int):=(Int.natCast_emod (m+1) l.length).symm;have dr:((l.length:Int) == 0)=false:=by rw [beq_eq_false_iff_ne];omega
       have de:0<(l.length:Int):=by omega
       rw [<- int_getD ba] at a1;rw [<- int_getD c5] at a2;generalize hq:(m+1) % l.length=q at *;generalize l.getD m 0=x at *;generalize l.getD q 0=y at *;have bv:X.drew.cell? ⟨b,o+m,none⟩=some (.int .i64 x):=a1;have cs:X.drew.cell? ⟨b,o+q,none⟩=some (.int .i64 y):=a2;have bz:=c9.out.below zaaq (M.mono (show B<=g.heap.size by omega));obtain ⟨df,au,P,ay,ca,av,bq,dw⟩:=zz8 ao c3 E c6 bz f K hq;clear ao c3 E c6 bz f K hq;go_wp2_with fail;all_goals try omega
       refine Canon.wp_region_text mixed (by kernel_rfl) ?_;go_wp2_with fail;all_goals try omega
       refine Canon.chk (by rfl) ?_;go_wp2_with fail;have b5:=fun wz (h1:Sl 3 RTri wz B (.slice A T.length I) T) (h2:B<=wz.heap.size)=>facing21_calls (N:=N) h1 h2 hfew x y
       have b6:=fun wz (h1:Sl 3 RTri wz B (.slice A T.length I) T) (h2:B<=wz.heap.size)=>facing21_calls (N:=N) h1 h2 hfew y x
       have bj:=oi_neg (facing T (x,y));have bk:=oi_neg (facing T (y,x));have c4:near T x y=((facing T (x,y)).isSome || (facing T (y,x)).isSome):=rfl;have ah:=au.out;have ai:=P.out;have bg:=ay.out;generalize facing T (x,y)=fu at *;generalize facing T (y,x)=fv at *;rw [c4] at ah ai;clear c4 au P ay;obtain ⟨u,hu⟩:∃ u,oi fu=u:=⟨_,rfl⟩;obtain ⟨v,W⟩:∃ v,oi fv=v:=⟨_,rfl⟩;rw [hu] at b5 bj;rw [W] at b6 bk;have cx:Below g.heap.size g X.drew.drew:=by first | exact M.drew.drew | exact M
       have bx:Sl 3 RTri X.drew.drew B (.slice A T.length I) T:=(ca.out.drew zaaq).drew zaaq;have d9:g.heap.size<=X.drew.drew.heap.size:=da;have k0:X.drew.drew.cell? ⟨w.heap.size,0,none⟩=some (.int .i64 N):=cv;have k1:X.drew.drew.cell? ⟨w.heap.size,1,none⟩=some (.slice A T.length I):=cw;obtain ⟨bm,ak,a4,dx,dy,az,a5,cb,cc,ar⟩:=zz10 ah ai bg hu W bj bk b5 b6 bx;clear ah ai bg hu W bj bk b5 b6 bx;refine Canon.wp_region_tree [4] (fun b9=>b9=w.heap.size) (.seg [0,1,2,4,5,6] (.alt 3 (.alt 7 (.seg [8,9] .fin) .no) .no)) mixed (by kernel_rfl) ?_;generalize X.drew.drew=W0 at *;refine Canon.tr_seg ?_;simp only [zm,zg];go_wp2_with fail;refine Canon.tr_to (Canon.tr_one ?_);simp only [zg];go_wp2_with fail;refine (cb.out W0 ar.out (by omega)).mono ?_;rintro e W1 ⟨rfl,Q⟩;have cq:=Q.size;go_wp2_with fail;refine Canon.tr_end (fun b9 G=>by subst G;exact Q.block _ (by omega)) (Canon.tr_one ?_);simp only [zg];go_wp2_with fail;refine (cc.out W1 (ar.out.below zaaq (Q.mono (by omega))) (by omega)).mono ?_;rintro e W2 ⟨rfl,b1⟩;have am:=cx.trans ((Q.trans (b1.mono cq)).mono d9);have cm:=R.trans (am.mono (by omega));go_wp2_with fail;refine Canon.tr_end (fun b9 G=>by subst G;exact (b1.block _ (by omega)).trans (Q.block _ (by omega))) (Canon.tr_seg ?_);simp only [zm,zg];go_wp2_with fail;refine Canon.tr_to (Canon.tr_fin (by rfl) (zF ⟨.inl ⟨_,rfl,rfl,by rw [k0];rfl⟩,fun _ h=>by cases h⟩) ?_);by_cases c7:u<0
       ·have J:=az.out.1 c7;by_cases ad:v<0
        ·have t:=a5.out.1 ad;have D:=bm.out (by rw [J,t];rfl);obtain ⟨ap,aq,n⟩:=zz3 J t D;clear J t D;go_wp2_with fail;all_goals try omega
         go_ret;exact ⟨ret_int n.out.symm,cm⟩
        ·have t:fv.isSome=true:=by
          cases fv with
          | none=>exact absurd (a5.out.2 rfl) ad
          | some d=>rfl
         have g1:=ak.out (by rw [J,t];rfl);have g2:=a4.out 13 (.inr ⟨rfl,.inl J⟩);obtain ⟨ap,aq,a7,a8⟩:=zz4 J t g1 g2;clear J t g1 g2;go_wp2_with fail;all_goals try omega
         exact ⟨⟨m+1,13,by omega,by simp,rfl,a7.out,a8.out,am⟩,by simp [intOf];omega⟩
       ·have J:∃ c,fu=some c:=by
         cases fu with
         | none=>exact absurd (az.out.2 rfl) c7
         | some d=>exact ⟨d,rfl⟩
        have g1:=ak.out (by obtain ⟨c,rfl⟩:=J;rfl);by_cases ad:v<0
        ·have t:=a5.out.1 ad;have g2:=a4.out 13 (.inr ⟨rfl,.inr t⟩);obtain ⟨ap,aq,a7,a8⟩:=zz4 J t g1 g2;clear J t g1 g2;go_wp2_with fail;all_goals try omega
         exact ⟨⟨m+1,13,by omega,by simp,rfl,a7.out,a8.out,am⟩,by simp [intOf];omega⟩
        ·have t:∃ d,fv=some d:=by
          cases fv with
          | none=>exact absurd (a5.out.2 rfl) ad
          | some d=>exact ⟨d,rfl⟩
         have g2:=a4.out r (.inl ⟨rfl,J,t⟩);obtain ⟨ap,aq,a7,a8⟩:=zz4 J t g1 g2;clear J t g1 g2;go_wp2_with fail;all_goals try omega
         exact ⟨⟨m+1,r,by omega,by simp,rfl,a7.out,a8.out,am⟩,by simp [intOf];omega⟩
      ·obtain rfl:m=l.length:=by omega
       have D:lpN N T l=r:=by
        rcases K with ⟨rfl,G⟩ | ⟨rfl,i,hi,G⟩
        ·exact lpN_ok H.out a3.out h3 f G
        ·exact lpN_rim H.out a3.out h3 f hi G
       obtain ⟨av,bq,n⟩:=zz3 f K D;clear f K D;go_wp2_with fail;all_goals try omega
       go_ret;exact ⟨ret_int n.out.symm,cn⟩
open Go Go.RowKit Go.Words Go.Mesh
theorem fits45_calls {w:World} {B:Nat} {sv pv kv:Value} {N:Int} {T P:List T3} {K:List Int} (hB0:B<=w.heap.size) (hT:Sl 3 RTri w B sv T) (hP:Sl 3 RTri w B pv P) (hK:Sl 1 RInt w B kv K) (hN:I64 N) :
  Calls Tryz.prog 46 #[.agg #[.int .i64 N,sv,pv,kv]] w fun e w'=>(∃ X b,e=.returned (.tuple #[X,.bool b])/\(b=true->big45 N T.length P.length K.length=false/\Surf N T/\mayB N T P K=true/\∃ B',Tab w' B' X N T))/\Below w.heap.size w w':=by
 obtain ⟨A,d,rfl,b8⟩:=hT.form;obtain ⟨z,c,rfl,b4⟩:=hP.form;obtain ⟨y,a,rfl,b3⟩:=hK.form;have F:=(Below.refl w.heap.size w).alloc zl (.cells #[.int .i64 N,.slice A T.length d,.slice z P.length c,.slice y K.length a] 67);have k:=Bk.new w 67 [.int .i64 N,.slice A T.length d,.slice z P.length c,.slice y K.length a];have bc:w.heap.size+1<=(w.alloc (.cells #[.int .i64 N,.slice A T.length d,.slice z P.length c,.slice y K.length a] 67)).heap.size:=by simp
 have a5:=hT.below zaaq (F.mono hB0);have a4:=hP.below zaaq (F.mono hB0);have a0:=hK.below zadq (F.mono hB0);generalize az:w.alloc (.cells #[.int .i64 N,.slice A T.length d,.slice z P.length c,.slice y K.length a] 67)=v at *;have c0:v.cell? ⟨w.heap.size,0,none⟩=some (.int .i64 N):=k.cell 0;have c1:v.cell? ⟨w.heap.size,1,none⟩=some (.slice A T.length d):=k.cell 1;have c2:v.cell? ⟨w.heap.size,2,none⟩=some (.slice z P.length c):=k.cell 2;have c3:v.cell? ⟨w.heap.size,3,none⟩=some (.slice y K.length a):=k.cell 3;have V:=great45_calls N A z y T.length P.length K.length d c a v;obtain ⟨bg,S⟩:∃ bg,big45 N T.length P.length K.length=bg:=⟨_,rfl⟩;rw [S] at V;obtain ⟨bb,ba,b9,af,ae,ad,ai,ah,Q⟩:=zz9 hT hP hK a5 a4 a0 k V S;clear hT hP hK a5 a4 a0 k V S;go_enter Tryz.func46,Tryz.ntmps46;go_wp2_with fail;clear az;refine ah.out.mono ?_;rintro e O ⟨rfl,j⟩;have bd:=j.size;have H:=F.trans (j.mono (by omega));cases bg with
 | true =>
  go_wp2_with fail;go_ret2;exact ⟨⟨_,false,rfl,fun h9=>by cases h9⟩,H⟩
 | false =>
 obtain ⟨q1,q2,q3,q4⟩:=small45 Q.out;have l:=ai.out.below j (by omega);have d0:O.cell? ⟨w.heap.size,0,none⟩=some (.int .i64 N):=l.cell 0;have d1:O.cell? ⟨w.heap.size,1,none⟩=some (.slice A T.length d):=l.cell 1;have d2:O.cell? ⟨w.heap.size,2,none⟩=some (.slice z P.length c):=l.cell 2;have d3:O.cell? ⟨w.heap.size,3,none⟩=some (.slice y K.length a):=l.cell 3;have R:=af.out.below zaaq (j.mono (show B<=v.heap.size by omega));have a9:=refmay45_calls (w:=O) (B:=B) (N:=N) (by omega) R (ae.out.below zaaq (j.mono (show B<=v.heap.size by omega))) (ad.out.below zadq (j.mono (show B<=v.heap.size by omega))) (by omega) (by omega) (by omega);obtain ⟨aj,ag,ak⟩:=zz3 l R a9;clear l R a9;go_wp2_with fail;refine ak.out.mono ?_;rintro e w2 ⟨⟨m,rfl,J⟩,G⟩;have be:=G.size;have o:=H.trans (G.mono (by omega));by_cases a8:m=0
 case neg =>
  have u:(m != 0)=true:=bne_iff_ne.2 a8;have b7:=zz J;clear J;go_wp2_with fail;all_goals try omega
  go_ret2;exact ⟨⟨_,false,rfl,fun h9=>by cases h9⟩,o⟩
 subst a8;obtain ⟨hs,u⟩:Surf N T/\mayB N T P K=true:=by
  rcases J with ⟨_,Y⟩ | ⟨D,Y⟩
  ·cases Y
  ·refine ⟨D,?_⟩;cases u:mayB N T P K with
   | true=>rfl
   | false=>rw [u] at Y;cases Y
 clear J;have I:=aj.out.below G (by omega);have f0:w2.cell? ⟨w.heap.size,0,none⟩=some (.int .i64 N):=I.cell 0;have f1:w2.cell? ⟨w.heap.size,1,none⟩=some (.slice A T.length d):=I.cell 1;have aa:=new_calls (.slice A T.length d) N T w2 (B:=B) (by omega) (ag.out.below zaaq (G.mono (show B<=O.heap.size by omega))) hN;obtain ⟨b5,Z,am,an⟩:=zz4 I hs u aa;clear I hs u aa;go_wp2_with fail;refine an.out.mono ?_;rintro e f ⟨⟨X,s,C,M,rfl,ac⟩,a6⟩;have b0:=a6.size;have p:Tab f f.heap.size X N T:=ac.elim (fun h9=>h9.2) fun h9=>absurd Z.out h9.1
 obtain ⟨gt,rfl⟩:∃ gt,X=.pointer (some gt):=by
  obtain ⟨g,_,_,_,_,_,rfl,_⟩:=p;exact ⟨_,rfl⟩
 clear ac;obtain ⟨x,L⟩:∃ x,f.alloc (.cells #[.int .i64 s,.int .i64 C,.int .i64 M] 48)=x:=⟨_,rfl⟩;have E:Below f.heap.size f x:=by rw [<- L];exact (Below.refl f.heap.size f).alloc zl _
 have t:Bk x f.heap.size 48 [.int .i64 s,.int .i64 C,.int .i64 M]:=by rw [<- L];exact Bk.new f _ _
 have b1:=E.size;have aq:=a6.trans (E.mono b0);have i:=o.trans (aq.mono o.size);have q:=p.below E zl;have r0:x.drew.cell? ⟨f.heap.size,0,none⟩=some (.int .i64 s):=t.cell 0;have r1:x.drew.cell? ⟨f.heap.size,1,none⟩=some (.int .i64 C):=t.cell 1;have r2:x.drew.cell? ⟨f.heap.size,2,none⟩=some (.int .i64 M):=t.cell 2;have r:=q.below (Below.refl _ _).drew b1;have U:∀ b,(b=true->big45 N T.length P.length K.length=false/\Surf N T/\mayB N T P K=true/\∃ B',Tab x.drew B' (.pointer (some gt)) N T):=fun _ _=>⟨Q.out,Z.out,am.out,_,r⟩
 obtain ⟨b2,aw,ax,b6,h,n⟩:=zz6 p q r t U L;clear p q r t U L;have hq:∀ W,Sem.run Tryz.prog (Op.equalIn 10000 48 (.agg #[.int .i64 0,.int .i64 0,.int .i64 0]) (.agg #[.int .i64 0,.int .i64 0,.int .i64 0])) W=.ok true W:=fun _=>by kernel_rfl
 have hg:∀ W,Sem.run Tryz.prog (eqGuard BinOp.eql 48 (Operand.tmp 20) (Operand.tmp 21) (.agg #[.int .i64 0,.int .i64 0,.int .i64 0]) (.agg #[.int .i64 0,.int .i64 0,.int .i64 0])) W=.ok () W:=fun _=>by kernel_rfl
 rcases (by omega:s≠0\/(s=0/\C≠0)\/(s=0/\C=0/\M≠0)\/(s=0/\C=0/\M=0)) with D | ⟨rfl,D⟩ | ⟨rfl,rfl,D⟩ | ⟨rfl,rfl,rfl⟩
 ·have a7:(s == 0)=false:=by rw [beq_eq_false_iff_ne];exact D
  clear hq hg;go_wp2_with fail;rw [n.out];refine Canon.wp_region_canon [0,1,2,4,3,5] mixed (by kernel_rfl) ?_;simp only [zm,zg];go_wp2_with fail;all_goals first | (exfalso;simp_all;done) | skip
  refine Canon.chk (by rfl) ?_;go_wp2_with fail;go_ret2;exact ⟨⟨_,_,rfl,h.out _⟩,i.drew⟩
 ·have a7:(C == 0)=false:=by rw [beq_eq_false_iff_ne];exact D
  clear hq hg;go_wp2_with fail;rw [n.out];refine Canon.wp_region_canon [0,1,2,4,3,5] mixed (by kernel_rfl) ?_;simp only [zm,zg];go_wp2_with fail;all_goals first | (exfalso;simp_all;done) | skip
  refine Canon.chk (by rfl) ?_;go_wp2_with fail;go_ret2;exact ⟨⟨_,_,rfl,h.out _⟩,i.drew⟩
 ·have a7:(M == 0)=false:=by rw [beq_eq_false_iff_ne];exact D
  clear hq hg;go_wp2_with fail;rw [n.out];refine Canon.wp_region_canon [0,1,2,4,3,5] mixed (by kernel_rfl) ?_;simp only [zm,zg];go_wp2_with fail;all_goals first | (exfalso;simp_all;done) | skip
  refine Canon.chk (by rfl) ?_;go_wp2_with fail;go_ret2;exact ⟨⟨_,_,rfl,h.out _⟩,i.drew⟩
 ·go_wp2_with fail;rw [n.out];refine Canon.wp_region_canon [0,1,2,4,3,5] mixed (by kernel_rfl) ?_;simp only [zm,zg];go_wp2_with fail;refine Canon.chk (by rfl) ?_;go_wp2_with fail;go_ret2;exact ⟨⟨_,_,rfl,h.out _⟩,i.drew⟩
theorem round45_calls {w:World} {B:Nat} {tv pv kv sv:Value} {N:Int} {T P:List T3} {K:List Int} (hB0:B<=w.heap.size) (hT:Sl 3 RTri w B sv T) (hP:Sl 3 RTri w B pv P) (hK:Sl 1 RInt w B kv K) {B2:Nat} (ht:Tab w B2 tv N T) (hs:Surf N T) (v:Nat) (hv:v<256) :
  Calls Tryz.prog 47 #[.agg #[.int .i64 N,sv,pv,kv],tv,.int .u8 (v:Int)] w fun e w'=>(∃ lv b,e=.returned (.tuple #[lv,.bool b])/\(b=true->∃ k:Nat,(k:Int)<N/\(v:Int) % N=(k:Int)/\innerAt T N (k:Int)=true/\Sl 1 RInt w' w'.heap.size lv (linkAt T N (k:Int))/\(∀ u∈linkAt T N (k:Int),innerAt T N u=true)/\lpN N T (linkAt T N (k:Int))=0))/\Below w.heap.size w w':=by
 obtain ⟨A,t,rfl,c3⟩:=hT.form;obtain ⟨Ap,r,rfl,bs⟩:=hP.form;obtain ⟨Ak,q,rfl,bq⟩:=hK.form;obtain ⟨gt,rfl⟩:∃ gt,tv=.pointer (some gt):=by
  obtain ⟨g,_,_,_,_,_,rfl,_⟩:=ht;exact ⟨_,rfl⟩
 obtain ⟨n,rfl⟩:∃ n:Nat,N=n:=⟨N.toNat,by have:=hs.n0;omega⟩;have O:=(Below.refl w.heap.size w).alloc zl (.cells #[.int .i64 (n:Int),.slice A T.length t,.slice Ap P.length r,.slice Ak K.length q] 67);have D:=Bk.new w 67 [.int .i64 (n:Int),.slice A T.length t,.slice Ap P.length r,.slice Ak K.length q];have c8:w.heap.size+1<=(w.alloc (.cells #[.int .i64 (n:Int),.slice A T.length t,.slice Ap P.length r,.slice Ak K.length q] 67)).heap.size:=by simp
 have L:=hT.below zaaq (O.mono hB0);have bj:=ht.le;have F:=ht.below O bj;generalize bm:w.alloc (.cells #[.int .i64 (n:Int),.slice A T.length t,.slice Ap P.length r,.slice Ak K.length q] 67)=w0 at *;have c0:w0.cell? ⟨w.heap.size,0,none⟩=some (.int .i64 (n:Int)):=D.cell 0;by_cases bk:n=0
 ·subst bk;obtain ⟨be,bd,bc,bh,V,Z,X,d⟩:=zz8 hT hP hK ht L F D hs;clear hT hP hK ht L F D hs;go_enter Tryz.func47,Tryz.ntmps47;go_wp2_with fail;go_ret2;exact ⟨⟨_,false,rfl,fun h9=>by cases h9⟩,by first | exact O | exact (Below.refl w.heap.size w).alloc zl _⟩
 obtain ⟨k,hk⟩:∃ k,v % n=k:=⟨_,rfl⟩;have c6:k<n:=by rw [<- hk];exact Nat.mod_lt _ (by omega)
 have b9:(v:Int) % (n:Int)=(k:Int):=by rw [<- hk];exact (Int.natCast_emod v n).symm
 have bu:(v:Int).tmod (n:Int)=(k:Int):=by rw [<- hk];rfl
 have c4:((n:Int) == 0)=false:=by rw [beq_eq_false_iff_ne];omega
 have bt:0<(n:Int):=by omega
 have c7:=hs.nmax;have a5:=inner_calls (.inl F) hs (k:Int);obtain ⟨J,j⟩:∃ J,innerAt T (n:Int) (k:Int)=J:=⟨_,rfl⟩;rw [j] at a5;clear hk;obtain ⟨be,bd,bc,bh,V,Z,X,d,aw,H⟩:=zz10 hT hP hK ht L F D hs a5 j;clear hT hP hK ht L F D hs a5 j;go_enter Tryz.func47,Tryz.ntmps47;go_wp2_with fail;all_goals try omega
 clear bm;refine aw.out.mono ?_;rintro e w1 ⟨rfl,y⟩;have bo:=y.size;have Q:=O.trans (y.mono (by omega));cases J with
 | false =>
  go_wp2_with fail;go_ret2;exact ⟨⟨_,false,rfl,fun h9=>by cases h9⟩,Q⟩
 | true =>
 have a7:=X.out.below y (by omega);have d0:w1.cell? ⟨w.heap.size,0,none⟩=some (.int .i64 (n:Int)):=a7.cell 0;have af:=Z.out.below y (show B2<=w0.heap.size by omega);have a8:=link_calls (.inl af) d.out (k:Int);have aq:(linkAt T (n:Int) (k:Int)).length<=1000000:=by
  have h1:=link_len d.out (v:=(k:Int)) (by omega);have h2:=nodup_len (d.out.ring_nodup (k:Int)) (m:=List.range (3 * T.length)) fun x U=>List.mem_range.2 ((d.out.ring_mem (k:Int) x).1 U).1
  rw [List.length_range] at h2;have h3:=d.out.tmax
  split at h1 <;> omega
 obtain ⟨lo,a9⟩:∃ lo,linkAt T (n:Int) (k:Int)=lo:=⟨_,rfl⟩;rw [a9] at a8 aq;obtain ⟨ay,b3,b0,I⟩:=zz4 a7 af a8 a9;clear a7 af a8 a9;go_wp2_with fail;all_goals try omega
 refine b0.out.mono ?_;rintro e s ⟨⟨lv,rfl,ad⟩,z⟩;have ae:Sl 1 RInt s s.heap.size lv lo:=sl_ivals ad;obtain ⟨Al,a0,rfl,br⟩:=ae.form;have c9:=z.size;have R:=Q.trans (z.mono (by omega));have S:=ay.out.below z (by omega);have f0:s.cell? ⟨w.heap.size,0,none⟩=some (.int .i64 (n:Int)):=S.cell 0;have f1:s.cell? ⟨w.heap.size,1,none⟩=some (.slice A T.length t):=S.cell 1;have ar:=b3.out.below z (show B2<=w1.heap.size by omega);have bl:=Below.refl s.heap.size s;have b7:B2<=s.heap.size:=by omega
 clear ad;obtain ⟨Y,bw,b4⟩:=zz3 ae S ar;clear ae S ar;go_wp2_with fail;go_loopw [36] (fun iv wr=>∃ i:Nat,i<=lo.length/\iv=.int .i64 (i:Int)/\(∀ u∈lo.take i,innerAt T (n:Int) u=true)/\Below s.heap.size s wr) (fun iv _=>lo.length - (intOf iv).toNat)
 case atStart=>exact ⟨0,by omega,rfl,fun u hu=>by simp at hu,bl⟩
 case round =>
  obtain ⟨i,hi,rfl,h,a⟩:=hrel;obtain ⟨G,bn⟩:∃ G,G=wr:=⟨_,rfl⟩;subst bn;have av:=a.size;have ak:=R.trans (a.mono (by omega));by_cases ap:i<lo.length
  ·obtain ⟨b,o,rfl,hb,a1⟩:=(Y.out.below zadq a).int_at ap;have au:lo.take (i+1)=lo.take i++[lo[i]]:=List.take_succ_eq_append_getElem ap;generalize lo[i]=u at *;have a6:=inner_calls (.inl (b4.out.below a b7)) d.out u;obtain ⟨J,j⟩:∃ J,innerAt T (n:Int) u=J:=⟨_,rfl⟩;rw [j] at a6;obtain ⟨l,b5,ax,H⟩:=zz4 h au a6 j;clear h au a6 j;go_wp2_with fail;refine ax.out.mono ?_;rintro e w3 ⟨rfl,C⟩;have a3:=a.trans (C.mono av);have f:=R.trans (a3.mono (by omega));cases J with
   | false =>
    go_wp2_with fail;go_ret2;exact ⟨⟨_,false,rfl,fun h9=>by cases h9⟩,f⟩
   | true =>
    have M:∀ x∈lo.take (i+1),innerAt T (n:Int) x=true:=fun x U=>by
     rw [b5.out,List.mem_append,List.mem_singleton] at U;rcases U with U | rfl
     ·exact l.out x U
     ·exact H.out
    have W:=zz M;clear M;go_wp2_with fail;exact ⟨⟨i+1,by omega,by simp,W.out,a3⟩,by simp [intOf];omega⟩
  ·obtain rfl:i=lo.length:=by omega
   rw [List.take_length] at h;have e0:=(a.cell (p:=⟨w.heap.size,0,none⟩) (by show w.heap.size<_;omega)).trans f0;have e1:=(a.cell (p:=⟨w.heap.size,1,none⟩) (by show w.heap.size<_;omega)).trans f1;have b6:=(y.trans (z.mono bo)).trans (a.mono (by omega));have a2:=(V.out.below zaaq (b6.mono (show B<=w0.heap.size by omega))).keep zaaq (Below.refl _ _) (show B<=G.heap.size by omega);have ac:=(Y.out.below zadq a).keep zadq (Below.refl _ _) av;have aa:=loop45_calls (w:=G) (B:=G.heap.size) (N:=(n:Int)) zl a2 (by have:=d.out.tmax;omega) ac aq;obtain ⟨c,hc⟩:∃ c,lpN (n:Int) T lo=c:=⟨_,rfl⟩;rw [hc] at aa;obtain ⟨l,bv,b2,b1,bg⟩:=zz5 h a2 ac aa hc;clear h a2 ac aa hc;go_wp2_with fail;all_goals try omega
   refine b1.out.mono ?_;rintro e w3 ⟨rfl,C⟩;have f:=ak.trans (C.mono (by omega));have E:Sl 1 RInt w3 w3.heap.size (.slice Al lo.length a0) lo:=(b2.out.below zadq C).keep zadq (Below.refl _ _) C.size;by_cases ao:c=0
   ·subst ao;have a4:∃ k:Nat,(k:Int)<(n:Int)/\(v:Int) % (n:Int)=(k:Int)/\innerAt T (n:Int) (k:Int)=true/\Sl 1 RInt w3 w3.heap.size (.slice Al lo.length a0) (linkAt T (n:Int) (k:Int))/\(∀ u∈linkAt T (n:Int) (k:Int),innerAt T (n:Int) u=true)/\lpN (n:Int) T (linkAt T (n:Int) (k:Int))=0 :=
     ⟨k,by omega,b9,H.out,by rw [I.out];exact E,by rw [I.out];exact l.out,by rw [I.out];exact bg.out⟩
    obtain ⟨aj,az⟩:=zz2 a4 E;clear a4 E;go_wp2_with fail;go_ret2;exact ⟨⟨_,true,rfl,fun _=>aj.out⟩,f⟩
   ·have c5:(c == 0)=false:=beq_eq_false_iff_ne.2 ao;have az:=zz E;clear E;go_wp2_with fail;all_goals try omega
    go_ret2;exact ⟨⟨_,false,rfl,fun h9=>by cases h9⟩,f⟩
end Go.Proofs.YtpbdcppaiafbgaaGreat
