/- The law GlueRefuses, walked. -/
import Derived.Test.YtpbdcppaiafbgaaGreatOB
import Derived.Test.YtpbdcppaiafbgaaGreatOM
set_option maxRecDepth 100000
set_option maxHeartbeats 8000000
namespace Go.Proofs.YtpbdcppaiafbgaaGreat
open Go Go.RowKit Go.Words Go.Mesh
theorem join_code {N:Int} {T P:List T3} {K:List Int} {x y turn c:Int} (h:JoinC N T P K x y turn c):(¬ Surf N T->c=11)/\(Surf N T->mayB N T P K=false->c=1):=by
 rcases h with ⟨a,b⟩ | ⟨a,b,d⟩ | ⟨a,b,_,_⟩ | ⟨a,b,_⟩
 ·exact ⟨fun _=>b,fun h9=>absurd h9 a⟩
 ·exact ⟨fun h9=>absurd a h9,fun _ _=>d⟩
 ·exact ⟨fun h9=>absurd a h9,fun _ h9=>by rw [b] at h9;cases h9⟩
 ·exact ⟨fun h9=>absurd a h9,fun _ h9=>by rw [b] at h9;cases h9⟩
theorem gluerefuses_law (sv pv kv:Value) (N:Int) (T P:List T3) (K:List Int) (x y turn:Int) (w:World) {B:Nat} (hB0:B<=w.heap.size) (hT:Sl 3 RTri w B sv T) (hP:Sl 3 RTri w B pv P) (hK:Sl 1 RInt w B kv K) (hN:I64 N) (hx:I64 x) (hy:I64 y) (ht:I64 turn) :
  Calls Tryz.prog 11 #[.agg #[.int .i64 N,sv,pv,kv],.int .i64 x,.int .i64 y,.int .i64 turn] w fun e w'=>e=.returned (.bool true)/\Below w.heap.size w w':=by
 obtain ⟨A,n,rfl,e8⟩:=hT.form
 obtain ⟨V,f,rfl,dp⟩:=hP.form
 obtain ⟨U,d,rfl,dn⟩:=hK.form
 have X:=(Below.refl w.heap.size w).alloc (Nat.le_refl _) (.cells #[.int .i64 N,.slice A T.length n,.slice V P.length f,.slice U K.length d] 67)
 have bs:=Bk.new w 67 [.int .i64 N,.slice A T.length n,.slice V P.length f,.slice U K.length d]
 have ep:w.heap.size+1<=(w.alloc (.cells #[.int .i64 N,.slice A T.length n,.slice V P.length f,.slice U K.length d] 67)).heap.size:=by simp
 have bn:=hT.below keeps_tri (X.mono hB0)
 have bm:=hP.below keeps_tri (X.mono hB0)
 have bl:=hK.below keeps_int (X.mono hB0)
 generalize dg:w.alloc (.cells #[.int .i64 N,.slice A T.length n,.slice V P.length f,.slice U K.length d] 67)=w0 at *
 have bo:=awake45_calls w0
 obtain ⟨ej,ei,eh,cc,ca,c8,cf,cj⟩:=zz8 hT hP hK bn bm bl bo bs;clear hT hP hK bn bm bl bo bs
 go_enter Tryz.func11,Tryz.ntmps11
 go_wp2_with fail
 clear dg
 refine cf.out.mono ?_
 rintro e w1 ⟨rfl,ae⟩
 have dh:=ae.size
 have ah:=X.trans (ae.mono X.size)
 have F:=cj.out.below ae (by omega)
 have c0:w1.cell? ⟨w.heap.size,0,none⟩=some (.int .i64 N):=F.cell 0
 have c1:w1.cell? ⟨w.heap.size,1,none⟩=some (.slice A T.length n):=F.cell 1
 have c2:w1.cell? ⟨w.heap.size,2,none⟩=some (.slice V P.length f):=F.cell 2
 have c3:w1.cell? ⟨w.heap.size,3,none⟩=some (.slice U K.length d):=F.cell 3
 have ak:=great45_calls N A V U T.length P.length K.length n f d w1
 obtain ⟨bg,b4⟩:∃ bg,big45 N T.length P.length K.length=bg:=⟨_,rfl⟩
 rw [b4] at ak
 obtain ⟨ck,ch,cg⟩:=zz3 F ak b4;clear F ak b4
 go_wp2_with fail
 refine ch.out.mono ?_
 rintro e S ⟨rfl,af⟩
 have eq:=af.size
 have u:=ah.trans (af.mono ah.size)
 cases bg with
 | true =>
  have b1:=awake45_calls S
  have ba:=zz b1;clear b1
  go_wp2_with fail
  refine ba.out.mono ?_
  rintro e s ⟨rfl,ag⟩
  have bc:=u.trans (ag.mono u.size)
  go_wp2_with fail
  go_ret
  exact ⟨rfl,bc⟩
 | false =>
  obtain ⟨q1,q2,q3,q4⟩:=small45 cg.out
  have G:=ck.out.below af (by omega)
  have d0:S.cell? ⟨w.heap.size,0,none⟩=some (.int .i64 N):=G.cell 0
  have d1:S.cell? ⟨w.heap.size,1,none⟩=some (.slice A T.length n):=G.cell 1
  have d2:S.cell? ⟨w.heap.size,2,none⟩=some (.slice V P.length f):=G.cell 2
  have d3:S.cell? ⟨w.heap.size,3,none⟩=some (.slice U K.length d):=G.cell 3
  have a5:=ae.trans (af.mono dh)
  have az:=cc.out.below keeps_tri (a5.mono (show B<=w0.heap.size by omega))
  have ax:=ca.out.below keeps_tri (a5.mono (show B<=w0.heap.size by omega))
  have av:=c8.out.below keeps_int (a5.mono (show B<=w0.heap.size by omega))
  have br:=join45_calls (w:=S) (B:=B) (by omega) az ax av hN (by omega) (by omega) (by omega) x y turn hx hy ht
  obtain ⟨cd,cb,c9,cl,ci⟩:=zz5 az ax av G br;clear az ax av G br
  go_wp2_with fail
  refine ci.out.mono ?_
  rintro e s ⟨⟨v,c,rfl,bq,bx,bw⟩,ag⟩
  obtain ⟨n0,A5,m5,q5,A6,m6,q6,A7,m7,q7,hv,c5⟩:∃ n0 A5 m5 q5 A6 m6 q6 A7 m7 q7,v=.agg #[.int .i64 n0,.slice A5 m5 q5,.slice A6 m6 q6,.slice A7 m7 q7]/\(c≠0->n0=0/\m5=0/\m6=0):=by
   by_cases hc:c=0
   ·obtain ⟨sv,pv,kv,k,l,E,h4⟩:=bw hc s fun _ _ _=>rfl
    obtain ⟨_,_,rfl,_⟩:=l.form
    obtain ⟨_,_,rfl,_⟩:=E.form
    obtain ⟨_,_,rfl,_⟩:=h4.form
    exact ⟨_,_,_,_,_,_,_,_,_,_,k,fun h9=>absurd hc h9⟩
   ·exact ⟨_,_,_,_,_,_,_,_,_,_,bx hc,fun _=>⟨rfl,rfl,rfl⟩⟩
  subst hv
  clear bx bw
  have di:=ag.size
  obtain ⟨D,an⟩:∃ D,s.alloc (.cells #[.int .i64 n0,.slice A5 m5 q5,.slice A6 m6 q6,.slice A7 m7 q7] 67)=D:=⟨_,rfl⟩
  have cu:Below s.heap.size s D:=by rw [<- an];exact (Below.refl s.heap.size s).alloc (Nat.le_refl _) _
  have bt:Bk D s.heap.size 67 [.int .i64 n0,.slice A5 m5 q5,.slice A6 m6 q6,.slice A7 m7 q7]:=by rw [<- an];exact Bk.new s _ _
  have er:D.heap.size=s.heap.size+1:=by rw [<- an];simp
  have C:=ag.trans (cu.mono di)
  have ai:=u.trans (C.mono u.size)
  have H:=cl.out.below C (by omega)
  have e0:D.cell? ⟨w.heap.size,0,none⟩=some (.int .i64 N):=H.cell 0
  have e1:D.cell? ⟨w.heap.size,1,none⟩=some (.slice A T.length n):=H.cell 1
  have e2:D.cell? ⟨w.heap.size,2,none⟩=some (.slice V P.length f):=H.cell 2
  have e3:D.cell? ⟨w.heap.size,3,none⟩=some (.slice U K.length d):=H.cell 3
  have b0:=cd.out.below keeps_tri (C.mono (show B<=S.heap.size by omega))
  have ay:=cb.out.below keeps_tri (C.mono (show B<=S.heap.size by omega))
  have aw:=c9.out.below keeps_int (C.mono (show B<=S.heap.size by omega))
  have bv:=refmay45_calls (w:=D) (B:=B) (N:=N) (by omega) b0 ay aw (by omega) (by omega) (by omega)
  obtain ⟨ce,dt,ds,cm,cn,a0,cp,J⟩:=zz8 b0 ay aw H bt bq bv c5;clear b0 ay aw H bt bq bv c5
  go_wp2_with fail
  clear an
  refine cp.out.mono ?_
  rintro e w5 ⟨⟨m,rfl,Z⟩,Y⟩
  have es:=Y.size
  have O:=ai.trans (Y.mono ai.size)
  have o:=cn.out.below Y (by omega)
  have z0:w5.cell? ⟨s.heap.size,0,none⟩=some (.int .i64 n0):=o.cell 0
  have z1:w5.cell? ⟨s.heap.size,1,none⟩=some (.slice A5 m5 q5):=o.cell 1
  have z2:w5.cell? ⟨s.heap.size,2,none⟩=some (.slice A6 m6 q6):=o.cell 2
  by_cases am:m=0
  case neg =>
   have da:c=m:=by
    obtain ⟨g1,g2⟩:=join_code a0.out
    rcases Z with ⟨k,l⟩ | ⟨k,l⟩
    ·rw [l];exact g1 k
    ·cases t:mayB N T P K with
     | true=>rw [t,if_pos rfl] at l;exact absurd l am
     | false=>rw [l,t];exact g2 k t
   subst da
   obtain ⟨rfl,rfl,rfl⟩:=J.out am
   have en:(c != 0)=true:=bne_iff_ne.2 am
   have eo:(c == c)=true:=beq_self_eq_true _
   obtain ⟨dv,aa⟩:=zz2 Z o;clear Z o
   go_wp2_with fail
   all_goals first | (exfalso;omega) | skip
   go_ret
   exact ⟨rfl,O⟩
  subst am
  obtain ⟨hs,t⟩:Surf N T/\mayB N T P K=true:=by
   rcases Z with ⟨_,l⟩ | ⟨k,l⟩
   ·cases l
   ·refine ⟨k,?_⟩
    cases t:mayB N T P K with
    | true=>rfl
    | false=>rw [t] at l;cases l
  clear Z
  have al:=cm.out.below Y (by omega)
  have f0:w5.cell? ⟨w.heap.size,0,none⟩=some (.int .i64 N):=al.cell 0
  have f1:w5.cell? ⟨w.heap.size,1,none⟩=some (.slice A T.length n):=al.cell 1
  have bz:=new_calls (.slice A T.length n) N T w5 (B:=B) (by omega) (ce.out.below keeps_tri (Y.mono (show B<=D.heap.size by omega))) hN
  obtain ⟨aa,du,ab,cq,cr⟩:=zz5 o al hs t bz;clear o al hs t bz
  go_wp2_with fail
  refine cr.out.mono ?_
  rintro e w6 ⟨⟨tv,a1,a2,a3,rfl,c4⟩,bp⟩
  have dj:=bp.size
  have R:Tab w6 w6.heap.size tv N T:=c4.elim (fun h9=>h9.2) fun h9=>absurd ab.out h9.1
  obtain ⟨gt,rfl⟩:∃ gt,tv=.pointer (some gt):=by
   obtain ⟨g,_,_,_,_,_,rfl,_⟩:=R
   exact ⟨_,rfl⟩
  clear c4
  obtain ⟨w7,c6⟩:∃ w7,w6.alloc (.cells #[.int .i64 a1,.int .i64 a2,.int .i64 a3] 48)=w7:=⟨_,rfl⟩
  have a6:Below w6.heap.size w6 w7:=by rw [<- c6];exact (Below.refl w6.heap.size w6).alloc (Nat.le_refl _) _
  have et:=a6.size
  have b2:=bp.trans (a6.mono dj)
  have aj:=O.trans (b2.mono O.size)
  have bu:=bloops_calls (.inl (R.below a6 (Nat.le_refl _))) ab.out
  obtain ⟨dm,co⟩:=zz2 R bu;clear R bu
  go_wp2_with fail
  clear c6
  refine co.out.mono ?_
  rintro e w8 ⟨⟨lv,rfl,a⟩,b3⟩
  have eu:=b3.size
  have h:=aj.trans (b3.mono aj.size)
  have cv:=b2.trans (b3.mono (by omega))
  have b:=aa.out.below cv (by omega)
  have z0:w8.cell? ⟨s.heap.size,0,none⟩=some (.int .i64 n0):=b.cell 0
  have z1:w8.cell? ⟨s.heap.size,1,none⟩=some (.slice A5 m5 q5):=b.cell 1
  have em:=ab.out.nmax
  have dq:=lps_len T N N.toNat
  obtain ⟨Ar,M,rfl⟩:∃ Ar M,lv=.slice Ar (lps T N N.toNat).length M:=by
   obtain ⟨vs,_,h9,_⟩:=a
   obtain ⟨Ar,M,h8,_⟩:=own_form h9
   exact ⟨Ar,M,h8⟩
  have Q:((x<0\/y<0\/((lps T N N.toNat).length:Int)<=x\/((lps T N N.toNat).length:Int)<=y)/\c=2) \/
    ∃ i j:Nat,∃ (hi:i<(lps T N N.toNat).length) (hj:j<(lps T N N.toNat).length),x=(i:Int)/\y=(j:Int)/\((i=j/\c=9)\/(i≠j/\(lps T N N.toNat)[j].length≠(lps T N N.toNat)[i].length/\c=13)\/(i≠j/\(lps T N N.toNat)[j].length=(lps T N N.toNat)[i].length/\(c=11\/c=0))):=by
   rcases a0.out with ⟨k,_⟩ | ⟨_,k,_⟩ | ⟨_,_,k,l⟩ | ⟨_,_,i,j,hi,hj,k,l,E⟩
   ·exact absurd ab.out k
   ·rw [cq.out] at k;cases k
   ·exact .inl ⟨k,l⟩
   ·refine .inr ⟨i,j,hi,hj,k,l,?_⟩
    rcases E with E | E | ⟨E,h4,⟨_,h5⟩ | ⟨_,h5⟩⟩
    ·exact .inl E
    ·exact .inr (.inl E)
    ·exact .inr (.inr ⟨E,h4,.inl h5⟩)
    ·exact .inr (.inr ⟨E,h4,.inr h5⟩)
  clear a0
  generalize lps T N N.toNat=L at *
  rcases Q with ⟨de,rfl⟩ | ⟨i,j,hi,hj,rfl,rfl,Q⟩
  ·obtain ⟨rfl,rfl,rfl⟩:=J.out (by decide)
   obtain ⟨z,I⟩:=zz2 a b;clear a b
   rcases (by omega:x<0\/(¬ x<0/\y<0)\/(¬ x<0/\¬ y<0/\(L.length:Int)<=x)\/(¬ x<0/\¬ y<0/\¬ (L.length:Int)<=x/\(L.length:Int)<=y)) with q | ⟨q,q2⟩ | ⟨q,q2,q3⟩ | ⟨q,q2,q3,q4⟩
   all_goals
    clear de
    go_wp2_with fail
    all_goals first | (exfalso;omega) | skip
    go_ret
    exact ⟨rfl,h⟩
  ·obtain ⟨gr,v1,d9,d5,_,ak,p⟩:=a.at_ rfl hi
   obtain ⟨el,v2,W,d6,_,_,r⟩:=a.at_ rfl hj
   subst d9
   injection W with W
   injection W with W
   subst W
   obtain ⟨B1,k1,rfl,_⟩:=own_form p
   obtain ⟨B2,k2,rfl,_⟩:=own_form r
   generalize (L[i]).length=li at *
   generalize (L[j]).length=lj at *
   have dz:w8.drew.cell? ⟨gr,i,none⟩=some (.slice B1 li k1):=d5
   have e4:w8.drew.cell? ⟨gr,j,none⟩=some (.slice B2 lj k2):=d6
   rcases Q with ⟨rfl,rfl⟩ | ⟨db,dd,rfl⟩ | ⟨db,dd,hc⟩
   ·obtain ⟨rfl,rfl,rfl⟩:=J.out (by decide)
    have c7:((i:Int) == (i:Int))=true:=beq_self_eq_true _
    obtain ⟨z,I,ac,ad⟩:=zz4 a b p r;clear a b p r
    go_wp2_with fail
    all_goals first | (exfalso;omega) | skip
    go_ret
    exact ⟨rfl,h⟩
   ·obtain ⟨rfl,rfl,rfl⟩:=J.out (by decide)
    have c7:((i:Int) == (j:Int))=false:=beq_eq_false_iff_ne.2 (by omega)
    have dc:((li:Int) != (lj:Int))=true:=bne_iff_ne.2 (by omega)
    obtain ⟨z,I,ac,ad⟩:=zz4 a b p r;clear a b p r
    go_wp2_with fail
    all_goals first | (exfalso;omega) | skip
    refine Canon.wp_region_text mixed (by kernel_rfl) ?_
    go_wp2_with fail
    all_goals first | (exfalso;omega) | skip
    refine Canon.chk (by rfl) ?_
    go_wp2_with fail
    all_goals first | (exfalso;omega) | skip
    go_ret
    exact ⟨rfl,by first | exact h | exact h.drew⟩
   ·have c7:((i:Int) == (j:Int))=false:=beq_eq_false_iff_ne.2 (by omega)
    have dc:((li:Int) != (lj:Int))=false:=bne_eq_false_iff_eq.2 (by omega)
    obtain ⟨z,I,ac,ad⟩:=zz4 a b p r;clear a b p r
    rcases hc with rfl | rfl
    all_goals
     go_wp2_with fail
     all_goals first | (exfalso;omega) | skip
     refine Canon.wp_region_text mixed (by kernel_rfl) ?_
     go_wp2_with fail
     all_goals first | (exfalso;omega) | skip
     refine Canon.chk (by rfl) ?_
     go_wp2_with fail
     all_goals first | (exfalso;omega) | skip
     go_ret
     exact ⟨rfl,by first | exact h | exact h.drew⟩
end Go.Proofs.YtpbdcppaiafbgaaGreat
