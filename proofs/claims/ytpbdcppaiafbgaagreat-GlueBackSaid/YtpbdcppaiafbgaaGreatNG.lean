/- The law GlueBack, walked. -/
import Derived.Test.YtpbdcppaiafbgaaGreatNF
import Derived.Test.YtpbdcppaiafbgaaGreatOM
import Derived.Test.YtpbdcppaiafbgaaGreatOQ
set_option maxRecDepth 100000
set_option maxHeartbeats 8000000
namespace Go.Proofs.YtpbdcppaiafbgaaGreat
open Go Go.RowKit Go.Words Go.Mesh
theorem glueback_law (sv pv kv:Value) (N:Int) (T P:List T3) (K:List Int) (m:Nat) (w:World) {B:Nat} (hB0:B<=w.heap.size) (hT:Sl 3 RTri w B sv T) (hP:Sl 3 RTri w B pv P) (hK:Sl 1 RInt w B kv K) (hN:I64 N) (hm:m<256) :
  Calls Tryz.prog 12 #[.agg #[.int .i64 N,sv,pv,kv],.int .u8 (m:Int)] w fun e w'=>e=.returned (.bool true)/\Below w.heap.size w w':=by
 obtain ⟨A,ba,rfl,p0⟩:=hT.form;obtain ⟨Ap,Z,rfl,og⟩:=hP.form;obtain ⟨Ak,Y,rfl,od⟩:=hK.form;have bc:=(Below.refl w.heap.size w).alloc zl (.cells #[.int .i64 N,.slice A T.length ba,.slice Ap P.length Z,.slice Ak K.length Y] 67);have ce:=Bk.new w 67 [.int .i64 N,.slice A T.length ba,.slice Ap P.length Z,.slice Ak K.length Y];have qo:w.heap.size+1<=(w.alloc (.cells #[.int .i64 N,.slice A T.length ba,.slice Ap P.length Z,.slice Ak K.length Y] 67)).heap.size:=by simp
 have gn:=hT.below keeps_tri (bc.mono hB0);have gj:=hP.below keeps_tri (bc.mono hB0);have gc:=hK.below keeps_int (bc.mono hB0);generalize nj:w.alloc (.cells #[.int .i64 N,.slice A T.length ba,.slice Ap P.length Z,.slice Ak K.length Y] 67)=w0 at *;have c0:w0.cell? ⟨w.heap.size,0,none⟩=some (.int .i64 N):=ce.cell 0;have c1:w0.cell? ⟨w.heap.size,1,none⟩=some (.slice A T.length ba):=ce.cell 1;have c2:w0.cell? ⟨w.heap.size,2,none⟩=some (.slice Ap P.length Z):=ce.cell 2;have c3:w0.cell? ⟨w.heap.size,3,none⟩=some (.slice Ak K.length Y):=ce.cell 3;have jp:=fits45_calls (w:=w0) (B:=B) (by omega) gn gj gc hN;obtain ⟨pt,ps,pr,ky,kt,km,l7,ld⟩:=zz8 hT hP hK gn gj gc jp ce;clear hT hP hK gn gj gc jp ce;go_enter Tryz.func12,Tryz.ntmps12;go_wp2_with fail;clear nj;refine l7.out.mono ?_;rintro e w1 ⟨⟨tv,ok,rfl,kb⟩,ao⟩;have fe:=ao.size;have eo:=bc.trans (ao.mono bc.size);have jj:=awake45_calls w1;obtain ⟨l4,m0⟩:=zz2 jj kb;clear jj kb;go_wp2_with fail;refine l4.out.mono ?_;rintro e w2 ⟨rfl,em⟩;have ig:=em.size;have bj:=eo.trans (em.mono eo.size);cases ok with
 | false =>
  have gx:=awake45_calls w2;have ip:=zz gx;clear gx;go_wp2_with fail;refine ip.out.mono ?_;rintro e w3 ⟨rfl,a0⟩;have ap:=bj.trans (a0.mono bj.size);go_wp2_with fail;go_ret;exact ⟨rfl,ap⟩
 | true =>
  obtain ⟨jm,hs,k4,B1,bx⟩:=m0.out rfl;obtain ⟨q1,q2,q3,q4⟩:=small45 jm;clear jm;obtain ⟨gt,rfl⟩:∃ gt,tv=.pointer (some gt):=by
   obtain ⟨g,_,_,_,_,_,rfl,_⟩:=bx;exact ⟨_,rfl⟩
  obtain ⟨n,rfl⟩:∃ n:Nat,N=n:=⟨N.toNat,by have:=hs.n0;omega⟩;have ct:=ao.trans (em.mono fe);have cf:=ld.out.below ct (by omega);have d0:w2.cell? ⟨w.heap.size,0,none⟩=some (.int .i64 (n:Int)):=cf.cell 0;have d1:w2.cell? ⟨w.heap.size,1,none⟩=some (.slice A T.length ba):=cf.cell 1;have d2:w2.cell? ⟨w.heap.size,2,none⟩=some (.slice Ap P.length Z):=cf.cell 2;have d3:w2.cell? ⟨w.heap.size,3,none⟩=some (.slice Ak K.length Y):=cf.cell 3;have gs:=ky.out.below keeps_tri (ct.mono (show B<=w0.heap.size by omega));have gk:=kt.out.below keeps_tri (ct.mono (show B<=w0.heap.size by omega));have gd:=km.out.below keeps_int (ct.mono (show B<=w0.heap.size by omega));have n6:=bx.le;have d4:=bx.below em n6;have az:B<=w2.heap.size:=by omega
  have f7:=round45_calls (w:=w2) (B:=w2.heap.size) zl (gs.keep keeps_tri (Below.refl _ _) az) (gk.keep keeps_tri (Below.refl _ _) az) (gd.keep keeps_int (Below.refl _ _) az) d4 hs m hm;obtain ⟨kz,ku,kn,lf,ob,g3,V,co,m1⟩:=zz9 gs gk gd cf bx d4 hs k4 f7;clear gs gk gd cf bx d4 hs k4 f7;go_wp2_with fail;refine m1.out.mono ?_;rintro e w3 ⟨⟨lv,b,rfl,f6⟩,a0⟩;have ih:=a0.size;have ap:=bj.trans (a0.mono bj.size);cases b with
  | false =>
   have oq:=zz f6;clear f6;go_wp2_with fail;go_ret;exact ⟨rfl,ap⟩
  | true =>
  obtain ⟨k,nc,pb,dj,f0,ea,dm⟩:=f6 rfl;clear f6;have nc:k<n:=by omega
  obtain ⟨Al,ow,rfl,oe⟩:=f0.form;have cg:=lf.out.below a0 (by omega);have e0:w3.cell? ⟨w.heap.size,0,none⟩=some (.int .i64 (n:Int)):=cg.cell 0;have e1:w3.cell? ⟨w.heap.size,1,none⟩=some (.slice A T.length ba):=cg.cell 1;have e2:w3.cell? ⟨w.heap.size,2,none⟩=some (.slice Ap P.length Z):=cg.cell 2;have e3:w3.cell? ⟨w.heap.size,3,none⟩=some (.slice Ak K.length Y):=cg.cell 3;have gv:=(kz.out.below keeps_tri (a0.mono az)).keep keeps_tri (Below.refl _ _) (show B<=w3.heap.size by omega);have gm:=(ku.out.below keeps_tri (a0.mono az)).keep keeps_tri (Below.refl _ _) (show B<=w3.heap.size by omega);have ge:=(kn.out.below keeps_int (a0.mono az)).keep keeps_int (Below.refl _ _) (show B<=w3.heap.size by omega);have fa:=g3.out.below a0 (show B1<=w2.heap.size by omega);have ey:(0:Int)<=(k:Int)/\(k:Int)<(n:Int):=by omega
  have hw:∀ u∈linkAt T (n:Int) (k:Int),I64 u:=fun u hu=>by
   have h1:=link_rng V.out ey hu;have h2:=V.out.nmax;unfold I64;omega
  have qf:(linkAt T (n:Int) (k:Int)).length<=3 * T.length:=by
   have h1:=link_len V.out ey;rw [if_pos dj] at h1;have h2:=nodup_len (V.out.ring_nodup (k:Int)) (m:=List.range (3 * T.length)) fun x hx=>List.mem_range.2 ((V.out.ring_mem (k:Int) x).1 hx).1
   rw [List.length_range] at h2;omega
  have eb:=newO_few V.out ((lpE (linkAt T (n:Int) (k:Int))).map nm) (by omega);have av:=loop_star V.out ey dj dm eb;have ed:=fun c (h1:c<3 * T.length) (h2:Mesh.vt T c=(k:Int))=>lp_opp V.out ey dj dm h1 h2
  have kc:=open45_calls (w:=w3) (B:=w3.heap.size) zl gv gm ge hN (by omega) (by omega) (by omega) f0 hw (by omega);have k9:=fun c (h:OpenC (n:Int) T P K (linkAt T (n:Int) (k:Int)) c)=>opens_ok V.out co.out dm eb h
  have i5:Ringed (n:Int) T (k:Int) (newX (n:Int) T ((lpE (linkAt T (n:Int) (k:Int))).map nm)) (newO (n:Int) T ((lpE (linkAt T (n:Int) (k:Int))).map nm)):=⟨av,ed,ea⟩;have am:=i5.loops;obtain ⟨i9,j9,p,q,cc,cd,pa,ic,qg,kd,jr⟩:=ring_pack (P:=P) (K:=K) i5 co.out;have dp:=av.cut;have c9:=av.numb.len;have jh:(P.length:Int)=n:=mayB_len co.out;have q9:(newO (n:Int) T ((lpE (linkAt T (n:Int) (k:Int))).map nm)).length<=4096:=eb;have i1:=may_open (X:=newX (n:Int) T ((lpE (linkAt T (n:Int) (k:Int))).map nm)) (O:=newO (n:Int) T ((lpE (linkAt T (n:Int) (k:Int))).map nm)) co.out c9;have jf:=newO_rng V.out ((lpE (linkAt T (n:Int) (k:Int))).map nm);clear i5;generalize jw:linkAt T (n:Int) (k:Int)=l at *;generalize ji:newX (n:Int) T ((lpE l).map nm)=X at *;generalize jd:newO (n:Int) T ((lpE l).map nm)=O at *;rw [Int.toNat_natCast] at am;obtain ⟨l0,kw,ko,lg,g4,ll,lp,io,la,lj,g2,iy⟩:=zz12 gv gm ge cg fa hw f0 ea dj dm av ed;obtain ⟨fu,ej,iz,dx,cn,m3,lb,fv,M,cm,oh,op⟩:=zz12 k9 am ic cc cd kd jr kc dp c9 jh jw;obtain ⟨fq,fo,oa,kr⟩:=zz4 ji jd i1 jf;clear gv gm ge cg fa hw f0 ea dj dm av ed k9 am ic cc cd kd jr kc dp c9 jh jw ji jd i1 jf;go_wp2_with fail;all_goals try omega
  refine fv.out.mono ?_;rintro e G ⟨⟨x,o,c,rfl,i3,_,aj⟩,h0⟩;obtain rfl:=fu.out _ i3;have ec:=aj rfl G fun _ _ _=>rfl
  clear aj i3;unfold OpenMade at ec;rw [fq.out,fo.out] at ec;obtain ⟨r8,qy,qw,rfl,sX,sP,sK,sO⟩:=ec;obtain ⟨A5,p5,rfl,qh⟩:=sX.form;obtain ⟨A6,p6,rfl,qi⟩:=sP.form;obtain ⟨A7,p7,rfl,qj⟩:=sK.form;obtain ⟨A8,p8,rfl,qk⟩:=sO.form;have jg:(ptsOf P O).length=O.length:=by unfold ptsOf;rw [List.length_map]
  have nq:=h0.size;have ep:=ap.trans (h0.mono ap.size);have dp:=M.out;have c9:=cm.out;clear fu fq fo g2 iy io la fv lj cm M;generalize jz:(ptsOf P O).length=mP at *;obtain ⟨w6,fc⟩:∃ w6,G.alloc (.cells #[.int .i64 (O.length:Nat),.slice A5 X.length p5,.slice A6 mP p6,.slice A7 K.length p7] 67)=w6:=⟨_,rfl⟩;have cu:Below G.heap.size G w6:=by rw [<- fc];exact (Below.refl G.heap.size G).alloc zl _
  have ez:Bk w6 G.heap.size 67 [.int .i64 (O.length:Nat),.slice A5 X.length p5,.slice A6 mP p6,.slice A7 K.length p7]:=by rw [<- fc];exact Bk.new G _ _
  have qp:w6.heap.size=G.heap.size+1:=by rw [<- fc];simp
  have eq:=ep.trans (cu.mono ep.size);have g0:w6.cell? ⟨G.heap.size,0,none⟩=some (.int .i64 (O.length:Nat)):=ez.cell 0;have g1:w6.cell? ⟨G.heap.size,1,none⟩=some (.slice A5 X.length p5):=ez.cell 1;have k6:=new_calls2 (.slice A5 X.length p5) (O.length:Nat) X w6 (B:=G.heap.size) (by omega) (sX.below keeps_tri cu) (I64.nat (by omega));obtain ⟨lh,lu,M,cm,mv,mu,ms,mt,kx,lr⟩:=zz10 ez k6 dp c9 sX sP sK sO jg jz;clear ez k6 dp c9 sX sP sK sO jg jz;go_wp2_with fail;all_goals try omega
  clear fc;refine lu.out.mono ?_;rintro e w7 ⟨⟨uv,b1,b2,b3,rfl,nf⟩,jk⟩;rcases nf with ⟨_,bm,fe,ig,ih⟩ | ⟨C,_⟩
  case inr=>exact absurd M.out C
  obtain ⟨gu,rfl⟩:∃ g,uv=.pointer (some g):=by
   obtain ⟨g,_,_,_,_,_,rfl,_⟩:=bm;exact ⟨_,rfl⟩
  have nr:=jk.size;obtain ⟨w8,fd⟩:∃ w8,w7.alloc (.cells #[.int .i64 b1,.int .i64 b2,.int .i64 b3] 48)=w8:=⟨_,rfl⟩;have h5:Below w7.heap.size w7 w8:=by rw [<- fd];exact (Below.refl w7.heap.size w7).alloc zl _
  have jt:Bk w8 w7.heap.size 48 [.int .i64 b1,.int .i64 b2,.int .i64 b3]:=by rw [<- fd];exact Bk.new w7 _ _
  have qq:w8.heap.size=w7.heap.size+1:=by rw [<- fd];simp
  have cv:=jk.trans (h5.mono nr);have er:=eq.trans (cv.mono eq.size);have jx:=bloops_calls (.inl (bm.below h5 zl)) M.out;have hq:∀ W,Sem.run Tryz.prog (Op.equalIn 10000 48 (.agg #[.int .i64 0,.int .i64 0,.int .i64 0]) (.agg #[.int .i64 0,.int .i64 0,.int .i64 0])) W=.ok true W:=fun _=>by kernel_rfl
  have hg:∀ W,Sem.run Tryz.prog (eqGuard BinOp.neq 48 (Operand.tmp 66) (Operand.tmp 67) (.agg #[.int .i64 0,.int .i64 0,.int .i64 0]) (.agg #[.int .i64 0,.int .i64 0,.int .i64 0])) W=.ok () W:=fun _=>by kernel_rfl
  obtain ⟨mr,dy,ln,g5,g6,g7,mp,mn⟩:=zz8 bm jt jx fe ig ih hq hg;clear bm jt jx fe ig ih hq hg;go_upto_region 9 with fail;all_goals try omega
  clear fd;obtain rfl:=g5.out;obtain rfl:=g6.out;obtain rfl:=g7.out;clear g5 g6 g7;have r0:w8.cell? ⟨w7.heap.size,0,none⟩=some (.int .i64 0):=dy.out.cell 0;have r1:w8.cell? ⟨w7.heap.size,1,none⟩=some (.int .i64 0):=dy.out.cell 1;have r2:w8.cell? ⟨w7.heap.size,2,none⟩=some (.int .i64 0):=dy.out.cell 2;have hq:=mp.out;have hg:=mn.out;go_wp2_with fail;all_goals try omega
  refine ln.out.mono ?_;rintro e w9 ⟨⟨rv,rfl,au⟩,dg⟩;rw [Int.toNat_natCast] at au;have qr:=dg.size;have gy:=((h0.trans (cu.mono nq)).trans (cv.mono (by omega))).trans (dg.mono (by omega));have es:=er.trans (dg.mono er.size);obtain ⟨Ar,ax,rfl⟩:∃ Ar ax,rv=.slice Ar (lps X (O.length:Nat) O.length).length ax:=by
   obtain ⟨vs,_,C,_⟩:=au;obtain ⟨Ar,ax,h8,_⟩:=own_form C;exact ⟨Ar,ax,h8⟩
  have hz:=bloops_calls (w:=w9) (.inl (g4.out.below gy (show B1<=w3.heap.size by omega))) V.out;have am:=ej.out;rw [Int.toNat_natCast] at hz;obtain ⟨D,el⟩:∃ D,lps X (O.length:Nat) O.length=D:=⟨_,rfl⟩;obtain ⟨nt,f3⟩:∃ nt,(lps T (n:Int) n).length=nt:=⟨_,rfl⟩;have pc:nt<=n:=by rw [<- f3];exact lps_len _ _ _
  rw [el] at au ⊢;rw [el,f3] at am;have p1:((D.length:Int) != (nt:Int)+2)=false:=by rw [bne_eq_false_iff_eq];omega
  obtain ⟨fy,lm,U,lx,ej⟩:=zz5 au hz el f3 am;clear au hz el f3 am;go_wp2_with fail;all_goals try omega
  refine lm.out.mono ?_;rintro e E ⟨⟨rt,rfl,f8⟩,b4⟩;obtain ⟨At,g8,rfl⟩:∃ At g8,rt=.slice At nt g8:=by
   obtain ⟨vs,_,C,_⟩:=f8;rw [lx.out] at C;obtain ⟨Ar,ax,h8,_⟩:=own_form C;exact ⟨Ar,ax,h8⟩
  clear f8;have pg:=b4.size;have h6:=es.trans (b4.mono es.size);have en:=gy.trans (b4.mono (by omega));have cj:=rows_below fy.out b4;obtain ⟨c4,d5⟩:∃ c4,E.alloc (.map #[] 0)=c4:=⟨_,rfl⟩;have df:Below E.heap.size E c4:=by rw [<- d5];exact (Below.refl E.heap.size E).alloc zl _
  have ph:c4.heap.size=E.heap.size+1:=by rw [<- d5];simp
  have jy:Mp enc1 I64 evT c4 E.heap.size ([]:List (Int × Unit)):=by rw [<- d5];exact Mp.new E
  have nh:=Below.refl E.heap.size c4;have nd:=@run_makeMap Tryz.prog;obtain ⟨e5,lq⟩:=zz2 cj jy;clear cj jy;go_wp2_with fail;all_goals try omega
  clear d5 nd;go_loopw [82] (fun iv wr=>∃ (i:Nat) (S:List (Int × Unit)),i<=l.length/\iv=.int .i64 (i:Int)/\Mp enc1 I64 evT wr E.heap.size S/\(∀ x,(Words.look S x).isSome=true↔x∈l.take i)/\Below E.heap.size c4 wr) (fun iv _=>l.length - (intOf iv).toNat)
  case atStart=>exact ⟨0,[],by omega,rfl,lq.out,fun x=>by simp [Words.look],nh⟩
  case round =>
   obtain ⟨i,S,hi,rfl,f1,a6,f⟩:=hrel;obtain ⟨R,nk⟩:∃ R,R=wr:=⟨_,rfl⟩;subst nk;have qs:=f.size;by_cases ai:i<l.length
   ·have be:=lp.out.below keeps_int (en.trans ((df.trans (f.mono (by omega))).mono (by omega)));obtain ⟨bl,ol,rfl,jn,a1⟩:=be.int_at ai;have i7:I64 l[i]:=ll.out _ (List.getElem_mem ai);have ib:l.take (i+1)=l.take i++[l[i]]:=List.take_succ_eq_append_getElem ai;generalize l[i]=s at *;have dl:∀ x:Int,(Words.look (Words.put S s ()) x).isSome=true↔x∈l.take (i+1):=fun x=>by
     rw [look_put,ib,List.mem_append,List.mem_singleton];by_cases f9:s=x
     ·rw [if_pos f9];simp [f9]
     ·rw [if_neg f9,a6 x];exact ⟨.inl,fun C=>C.elim id fun h8=>absurd h8.symm f9⟩
    obtain ⟨e4,bo,dz,os,fg⟩:=zz5 f1 a6 be ib dl;clear f1 a6 be ib dl;go_wp2_with (at_mapUpdate;refine wpList_put _ rfl _ _ _ 85 rfl 3 4 keyI Tryz.underlying85 E.heap.size S rfl e4.out s rfl i7 () rfl ?_;intro wn i0 hh pd;obtain ⟨iw,iu⟩:=zz2 i0 hh;clear i0 hh);all_goals try omega
    have a0:=f.grown iu.out (by omega) (fun q hq=>by cases hq;exact zl);exact ⟨⟨i+1,_,by omega,by simp,iw.out,fg.out,a0⟩,by simp [intOf];omega⟩
   ·obtain rfl:i=l.length:=by omega
    rw [List.take_length] at a6;have dh:Below E.heap.size E R:=df.trans f;have ns:E.heap.size<R.heap.size:=by omega
    have gz:=en.trans (dh.mono (by omega));have et:=h6.trans (dh.mono (by omega));have ng:=Below.refl R.heap.size R;have cc:D[i9]? = some p:=by rw [<- U.out];exact dx.out
    have cd:D[j9]? = some q:=by rw [<- U.out];exact cn.out
    obtain ⟨bu,hk⟩:=List.getElem?_eq_some_iff.1 cc;obtain ⟨hn,hl⟩:=List.getElem?_eq_some_iff.1 cd;have cy:=rows_below e5.out dh;obtain ⟨gr,vr,rfl,_,_,qe,_⟩:=cy.at_ rfl bu;have g9:∀ j (hj:j<D.length),3<=D[j].length:=fun j hj=>(M.out.lps_each O.length _ (by rw [U.out];exact List.getElem_mem hj)).1
    have gf:∀ j (hj:j<D.length) r (hr:r<D[j].length),D[j][r]<O.length:=fun j hj r hr=>by
     have:=M.out.lps_lt (L:=D[j]) (k:=O.length) (by rw [U.out];exact List.getElem_mem hj) (List.getElem_mem hr);omega
    have n7:0<O.length:=by
     have h1:=g9 i9 bu;have h2:=gf i9 bu 0 (by omega);omega
    have h3:Below G.heap.size G R:=((cu.trans (cv.mono (by omega))).trans (dg.mono (by omega))).trans ((b4.mono (by omega)).trans (dh.mono (by omega)));have gi:=mt.out.below keeps_int h3;obtain ⟨b8,o8,rfl,qa,_⟩:=gi.int_at n7;have q8:D.length<=4096:=by
     have:=lps_len X (O.length:Nat) O.length;rw [U.out] at this;omega
    have c7:((List.range D.length).filter fun k=>ofRing l O (D.getD k []))=[i9,j9]:=by rw [<- U.out];exact iz.out
    obtain ⟨F,hF⟩:∃ F:Nat->List Nat,∀ i,F i=(List.range i).filter fun k=>ofRing l O (D.getD k []):=⟨_,fun _=>rfl⟩
    have jb:∀ i (hi:i<D.length),F (i+1)=F i++if ofRing l O D[i]=true then [i] else []:=fun i hi=>by rw [hF,hF];exact found_succ hi
    have ja:∀ i,(F i).length<=i:=fun i=>by
     rw [hF];exact Nat.le_trans (List.length_filter_le ..) (by rw [List.length_range];exact zl)
    rw [<- hF] at c7;have j8:F 0=[]:=by rw [hF];rfl
    have f4:R.ownsRow R.heap.size 3 1 (.slice none 0 0) 0 []:=World.ownsRow_nil _ _ _ _;have jc:∀ x∈O,I64 x:=fun x hx=>by
     have h1:=kr.out x hx;unfold I64;omega
    clear hF;obtain ⟨e4,bo,dc,ck,dv,fp,ki,kk,kj,fm,fw,kl⟩:=zz12 f1 a6 cy g9 gf gi c7 jb ja j8 f4 jc;obtain ⟨dx,cn,eh,ei⟩:=zz4 cc cd hk hl;clear f1 a6 cy g9 gf gi c7 jb ja j8 f4 jc cc cd hk hl;go_wp2_with fail;all_goals try omega
    go_loopw [15,91] (fun tv iv wr=>∃ (i:Nat) (A2:Option Addr) (br:Nat),i<=D.length/\iv=.int .i64 (i:Int)/\tv=.slice A2 (F i).length br/\wr.ownsRow R.heap.size 3 1 (.slice A2 (F i).length br) (F i).length (nvals (F i))/\Below R.heap.size R wr) (fun _ iv _=>D.length - (intOf iv).toNat)
    case atStart=>exact ⟨0,none,0,by omega,rfl,by rw [fm.out];rfl,by rw [fm.out];exact fw.out,ng⟩
    case round =>
     obtain ⟨i,A2,br,hi,rfl,rfl,a3,f⟩:=hrel;obtain ⟨wq,nl⟩:∃ wq,wq=wr:=⟨_,rfl⟩;subst nl;have bg:=f.size;have m5:=kj.out i;by_cases ai:i<D.length
     ·obtain ⟨gl,ov,qc,ca,jo⟩:=rows_at (rows_below dc.out f) rfl ai (by have:=ck.out i ai;omega);have gh:=dv.out i ai;have gb:=kk.out i ai;have q6:=ck.out i ai;have q7:D[i].length<=20000:=by
       have h1:=nodup_lt O.length D[i] (M.out.lps_round (k:=O.length) (by rw [U.out];exact List.getElem_mem ai)).2.1 fun x hx=>by
        obtain ⟨r,hr,rfl⟩:=List.getElem_of_mem hx;exact gh r hr
       omega
      generalize D[i]=L at *;obtain ⟨b0,bc⟩:∃ b0,(L.length == l.length)=b0:=⟨_,rfl⟩;have qb:((L.length:Int) == (l.length:Int))=b0:=by
       rw [<- bc,Bool.eq_iff_iff,beq_iff_eq,beq_iff_eq];omega
      have ka:ofRing l O L=(b0 && L.all fun k=>decide (O.getD k 0∈l)):=by rw [<- bc];rfl
      have je:=fp.out.below keeps_int (f.mono (show G.heap.size<=R.heap.size by omega));have k5:=e4.out.below f ns;obtain ⟨cr,l5,kp,ik,lz,kq,ls⟩:=zz7 a3 jo gh gb ka je k5;clear a3 jo gh gb ka je k5;go_wp2_with fail;all_goals try omega
      go_loopw [21,103] (fun bv jv wr2=>∃ r:Nat,r<=L.length/\jv=.int .i64 (r:Int)/\bv=.bool (b0 && (L.take r).all fun k=>decide (O.getD k 0∈l))/\wq=wr2) (fun _ jv _=>L.length - (intOf jv).toNat)
      case atStart=>exact ⟨0,by omega,rfl,by simp,rfl⟩
      case round =>
       obtain ⟨r,hr,rfl,rfl,rfl⟩:=hrel;by_cases i6:r<L.length
       ·have qn:=l5.out r i6;have ie:=kp.out r i6;have J:(b0 && (L.take (r+1)).all fun k=>decide (O.getD k 0∈l))=((b0 && (L.take r).all fun k=>decide (O.getD k 0∈l)) && decide (O.getD L[r] 0∈l)):=by
         rw [List.take_succ_eq_append_getElem i6,List.all_append,<- Bool.and_assoc];simp
        generalize L[r]=x at *;obtain ⟨py,qx,e8,oz,a8⟩:=kq.out.int_at ie;cases e8;have di:O.getD x 0=O[x]:=by rw [List.getD_eq_getElem?_getD,zG ie];rfl
        have i7:I64 O[x]:=kl.out _ (List.getElem_mem ie);rw [di] at J;generalize O[x]=s at *;have be:((Words.look S s).map evT).getD (.bool false)=.bool (decide (s∈l)):=by
         by_cases ex:s∈l
         ·obtain ⟨y,hy⟩:=Option.isSome_iff_exists.1 ((bo.out s).2 ex);rw [hy,decide_eq_true ex];rfl
         ·cases hy:Words.look S s with
          | none=>rw [decide_eq_false ex];rfl
          | some y=>exact absurd ((bo.out s).1 (by rw [hy];rfl)) ex
        generalize (b0 && (L.take r).all fun k=>decide (O.getD k 0∈l))=bq at *;generalize ev:decide (s∈l)=ds at *;cases bq with
        | false =>
         rw [Bool.false_and] at J;obtain ⟨bp,dz,l8,l6⟩:=zz4 J be di ev;clear J be di ev;go_wp2_with fail;all_goals try omega
         exact ⟨⟨r+1,by omega,by simp,by rw [bp.out],trivial⟩,by simp [intOf];omega⟩
        | true =>
         rw [Bool.true_and] at J;obtain ⟨bp,dz,l8,l6⟩:=zz4 J be di ev;clear J be di ev;go_wp2_with (at_lookup;refine wpList_lookG _ (by rfl) _ _ 85 rfl 3 4 keyI Tryz.underlying85 zero_bool E.heap.size S rfl ls.out s rfl i7 ?_;rw [dz.out]);all_goals try omega
         exact ⟨⟨r+1,by omega,by simp,by rw [bp.out],trivial⟩,by simp [intOf];omega⟩
       ·obtain rfl:r=L.length:=by omega
        rw [List.take_length,<- lz.out];have bb:=ik.out;generalize ofRing l O L=bf at *;cases bf with
        | false =>
         rw [if_neg (by decide),List.append_nil] at bb;have du:=zz bb;clear bb;go_wp2_with fail;all_goals try omega
         exact ⟨⟨i+1,A2,br,by omega,by simp,by rw [du.out],by rw [du.out];exact cr.out,f⟩,by simp [intOf];omega⟩
        | true =>
         rw [if_pos rfl] at bb;obtain ⟨wl,dq⟩:∃ wl,wq.alloc (.cells #[.int .i64 (i:Int)] 3)=wl:=⟨_,rfl⟩;have hp:Bk wl wq.heap.size 3 [.int .i64 (i:Int)]:=by rw [<- dq];exact Bk.new wq _ _
         have f5:wl.ownsRow R.heap.size 3 1 (.slice A2 (F i).length br) (F i).length (nvals (F i)):=by rw [<- dq];exact cr.out.alloc _
         have jn:Below R.heap.size R wl:=by rw [<- dq];exact f.alloc bg _
         have qt:wl.heap.size=wq.heap.size+1:=by rw [<- dq];simp
         have f2:∀ ad,(some ⟨wq.heap.size,0,none⟩:Option Addr)=some ad->∀ j u,([.int .i64 (i:Int)]:List Value)[j]? = some u->wl.cell? (ad.add j)=some u:=fun ad e j u hj=>by
          injection e with e;subst e;rw [Addr.add_lit,Nat.zero_add];exact (hp.cell j).trans hj
         have k8:nvals (F i)++[.int .i64 (i:Int)]=nvals (F (i+1)):=by rw [bb];unfold nvals;rw [List.map_append];rfl
         have k7:(F (i+1)).length=(F i).length+1:=by rw [bb,List.length_append];rfl
         obtain ⟨oo,fx,ft,du,ly⟩:=zz5 hp f5 f2 bb k8;clear hp f5 f2 bb k8;go_wp2_with (at_builtin;refine wpList_append_opt rfl (.tmp 118) (.tmp 120) 28 rfl R.heap.size Tryz.underlying28 info_int rfl (by decide) _ (F i).length (nvals (F i)) rfl fx.out (some ⟨wq.heap.size,0,none⟩) 1 1 [.int .i64 (i:Int)] rfl rfl (fun h=>by cases h) ft.out (by simp [Value.oneCell']) (by omega) (by decide) (by omega) ?_);all_goals try omega
         intro v' r9 ar ew m6 _;clear dq;obtain ⟨mk,j0,rfl,n9⟩:=own_form ar;rw [ly.out,<- k7] at ar;have j3:=jn.trans m6;rw [<- k7];obtain ⟨fh,mo⟩:=zz2 ar ew;clear ar ew;go_wp2_with fail;all_goals try omega
         exact ⟨⟨i+1,mk,j0,by omega,by simp,rfl,fh.out,j3⟩,by simp [intOf];omega⟩
     ·obtain rfl:i=D.length:=by omega
      have c7:=ki.out;have e2:[i9,j9].length=2:=rfl;rw [c7,e2] at a3 ⊢;obtain ⟨ga,rfl⟩:=own_addr a3 (by omega);obtain ⟨u0,p3,p4⟩:=own_cell a3 (show (nvals [i9,j9])[0]? = some (.int .i64 (i9:Int)) from rfl);have u1:=(own_cell a3 (show (nvals [i9,j9])[1]? = some (.int .i64 (j9:Int)) from rfl)).1;have bk:=rows_below dc.out f;have pz:3<=p.length:=by rw [<- eh.out];exact ck.out i9 bu
      have q5:3<=q.length:=by rw [<- ei.out];exact ck.out j9 hn
      have gg:∀ r (hr:r<p.length),p[r]<O.length:=by
       have h1:=eh.out;have h2:=dv.out i9 bu;generalize D[i9]=p2 at *;subst h1;exact h2
      have e7:∀ r (hr:r<q.length),q[r]<O.length:=by
       have h1:=ei.out;have h2:=dv.out j9 hn;generalize D[j9]=q2 at *;subst h1;exact h2
      obtain ⟨gp,n1,ha,qd,hc⟩:=rows_at2 bk rfl dx.out (by omega);obtain ⟨gq,n2,hd,cb,he⟩:=rows_at2 bk rfl cn.out (by omega);have o0:wq.drew.cell? ⟨ga,0,none⟩=some (.int .i64 (i9:Int)):=u0;have o1:wq.drew.cell? ⟨ga,1,none⟩=some (.int .i64 (j9:Int)):=u1;have o2:wq.drew.cell? ⟨gr,i9,none⟩=some (.slice (some ⟨gp,0,none⟩) p.length n1):=ha;have o3:wq.drew.cell? ⟨gr,j9,none⟩=some (.slice (some ⟨gq,0,none⟩) q.length n2):=hd;have f7:=(Below.refl wq.heap.size wq).drew;have ql:q.length<=20000:=by
       have h1:=nodup_lt O.length q (M.out.lps_round (k:=O.length) (by rw [U.out];exact List.mem_of_getElem? cn.out)).2.1 fun x hx=>by
        obtain ⟨r,hr,rfl⟩:=List.getElem_of_mem hx;exact e7 r hr
       omega
      clear c7 m5;obtain ⟨cr,mq,il,im,oj,om,iq,ir⟩:=zz8 a3 bk gg e7 ha hd hc he;clear a3 bk gg e7 ha hd hc he;go_wp2_with fail;all_goals try omega
      refine Canon.wp_region_text mixed (by kernel_rfl) ?_;go_wp2_with fail;all_goals try omega
      refine Canon.chk (by rfl) ?_;go_wp2_with fail;all_goals try omega
      clear o0 o1 o2 o3;go_loopw [143] (fun tv wr=>∃ t:Nat,t<=q.length/\tv=.int .i64 (t:Int)/\(∀ s,s<t->O.getD (q.getD s 0) 0≠O.getD (p.getD 0 0) 0)/\Below wq.heap.size wq wr) (fun tv _=>q.length - (intOf tv).toNat)
      case atStart=>exact ⟨0,by omega,rfl,fun s hs=>by omega,f7⟩
      case round =>
       obtain ⟨t,ht,rfl,ci,bd⟩:=hrel;obtain ⟨d,np⟩:∃ d,d=wr:=⟨_,rfl⟩;subst np;have qv:=bd.size;by_cases fb:t<q.length
       ·have bz:=bd.drew;have kf:=im.out t fb;have ke:=il.out 0 (by omega);have cq:d.drew.cell? ⟨gq,t,none⟩=some (.int .i64 (q[t]:Int)):=(bd.cell (p:=⟨gq,t,none⟩) (by show gq<_;omega)).trans (ir.out t fb);have cp:d.drew.cell? ⟨gp,0,none⟩=some (.int .i64 (p[0]:Int)):=(bd.cell (p:=⟨gp,0,none⟩) (by show gp<_;omega)).trans (iq.out 0 (by omega));have c8:=fp.out.below keeps_int ((f.trans (bz.mono bg)).mono (show G.heap.size<=R.heap.size by omega));obtain ⟨_,_,e8,_,a8⟩:=c8.int_at kf;cases e8;obtain ⟨_,_,e9,_,a9⟩:=c8.int_at ke;cases e9;have j7:q.getD t 0=q[t]:=by rw [List.getD_eq_getElem?_getD,zG fb];rfl
        have j6:p.getD 0 0=p[0]:=by rw [List.getD_eq_getElem?_getD,zG (show 0<p.length by omega)];rfl
        have cb:O.getD (q.getD t 0) 0=O[q[t]]:=by rw [j7,List.getD_eq_getElem?_getD,zG kf];rfl
        have b5:O.getD (p.getD 0 0) 0=O[p[0]]:=by rw [j6,List.getD_eq_getElem?_getD,zG ke];rfl
        clear j7 j6;have bw:=lb.out t fb;have J:O.getD (q.getD t 0) 0≠O.getD (p.getD 0 0) 0->∀ s,s<t+1->O.getD (q.getD s 0) 0≠O.getD (p.getD 0 0) 0:=fun C s hs=>by
         rcases (by omega:s<t\/s=t) with h8 | rfl
         ·exact ci s h8
         ·exact C
        rw [cb] at bw J;rw [b5] at bw;generalize O[q[t]]=s1 at *;generalize O[p[0]]=s2 at *;generalize q[t]=x1 at *;generalize p[0]=x2 at *;by_cases ia:s1=s2
        ·subst ia;have hf:=bw rfl;have oy:Below w3.heap.size w3 d.drew:=gz.trans ((f.trans (bz.mono bg)).mono (by omega));have oc:Below w.heap.size w d.drew:=et.trans ((f.trans (bz.mono bg)).mono (by omega));have Q:Below G.heap.size G d.drew:=h3.trans ((f.trans (bz.mono bg)).mono (by omega));have h4:Below w6.heap.size w6 d.drew:=((cv.trans (dg.mono (by omega))).trans ((b4.mono (by omega)).trans (dh.mono (by omega)))).trans ((f.trans (bz.mono bg)).mono (by omega));have jq:=fun W (hW:Below d.drew.heap.size d.drew W)=>join45_calls (w:=W) (B:=W.heap.size) zl ((mv.out.below keeps_tri (Q.trans (hW.mono Q.size))).keep keeps_tri (Below.refl _ _) (Nat.le_trans Q.size hW.size)) ((mu.out.below keeps_tri (Q.trans (hW.mono Q.size))).keep keeps_tri (Below.refl _ _) (Nat.le_trans Q.size hW.size)) ((ms.out.below keeps_int (Q.trans (hW.mono Q.size))).keep keeps_int (Below.refl _ _) (Nat.le_trans Q.size hW.size))
          (N:=(O.length:Nat)) (I64.nat (by omega)) (by have:=cm.out;omega) (by have:=lr.out;have:=kx.out;omega) (by omega) (i9:Int) (j9:Int) (t:Int) (I64.nat (by omega)) (I64.nat (by omega)) (I64.nat (by omega))
         have hv:=lh.out.below h4 (by omega);have v0:d.drew.cell? ⟨ga,0,none⟩=some (.int .i64 (i9:Int)):=(bd.cell (p:=⟨ga,0,none⟩) (by show ga<_;omega)).trans u0;have v1:d.drew.cell? ⟨ga,1,none⟩=some (.int .i64 (j9:Int)):=(bd.cell (p:=⟨ga,1,none⟩) (by show ga<_;omega)).trans u1;have pe:G.heap.size<d.drew.heap.size:=by have:=h4.size;omega
         have p9:ga<d.drew.heap.size:=by have:=bz.size;omega
         clear u0 u1;obtain ⟨bp,lw,a5,lc,l9,it,ks,fs,bi⟩:=zz9 J ci hf bw cb b5 c8 jq hv;clear J ci hf bw cb b5 c8 jq hv;go_wp2_with fail;all_goals try omega
         refine Canon.wp_region_text mixed (by kernel_rfl) ?_;go_wp2_with fail;all_goals try omega
         refine Canon.chk (by rfl) ?_;go_upto_region 40 with fail;all_goals try omega
         go_cut [27,28] (fun s27 s28 H=>GluedB d (n:Int) T P K s27 s28 H)
         case first =>
          have gw:Below d.drew.heap.size d.drew d.drew.drew:=(Below.refl _ _).drew;have de:Below d.heap.size d d.drew.drew:=(Below.refl d.heap.size d).drew.drew;have q0:d.drew.drew.cell? ⟨G.heap.size,0,none⟩=some (.int .i64 (O.length:Nat)):=bi.out.cell 0;have qz:d.drew.drew.cell? ⟨G.heap.size,1,none⟩=some (.slice A5 X.length p5):=bi.out.cell 1;have r3:d.drew.drew.cell? ⟨G.heap.size,2,none⟩=some (.slice A6 mP p6):=bi.out.cell 2;have r4:d.drew.drew.cell? ⟨G.heap.size,3,none⟩=some (.slice A7 K.length p7):=bi.out.cell 3;have t0:d.drew.drew.cell? ⟨ga,0,none⟩=some (.int .i64 (i9:Int)):=v0;have t1:d.drew.drew.cell? ⟨ga,1,none⟩=some (.int .i64 (j9:Int)):=v1;have o6:=gw.size;clear v0 v1;go_wp2_with fail;refine Canon.wp_region_tree [0,3,6] (fun b9=>b9=G.heap.size\/b9=ga) (.seg [0,1,2,3,4,5,6,7] (.alt 8 (.seg [9,10,11] (.alt 12 (.alt 13 (.seg [14] .fin) .no) .no)) (.alt 12 (.alt 8 (.seg [9,10,11] (.alt 13 (.seg [14] .fin) .no)) .no) .no))) mixed (by kernel_rfl) ?_;generalize d.drew.drew=z at *;refine Canon.tr_seg ?_;simp only [zmC,zmN,zgZ,zgS];go_wp2_with fail;refine Canon.tr_to (Canon.tr_alt ?_ (Canon.tr_one ?_))
          ·have hj:=fs.out z gw;have fr:=zz hj;clear hj;simp only [zgZ,zgS];go_wp2_with fail;refine fr.out.mono ?_;rintro e a ⟨⟨v,c,rfl,dk,_,aj⟩,I⟩;obtain rfl:=a5.out.1 c dk;obtain ⟨aa,ac,ae,af,ag,ah,rfl,_⟩:=glued_shape (a5.out.2 a v (aj rfl a fun _ _ _=>rfl));have ma:=I.size;have ca:=fun H (h:∀ b,z.heap.size<=b->b<a.heap.size->H.heap[b]? = a.heap[b]?)=>glued_sl (a5.out.2 H _ (aj rfl H h))
           have cs:=de.trans (I.mono de.size);clear dk aj;have dw:=zz ca;clear ca;go_wp2_with fail;refine Canon.tr_end (fun b9 C=>I.block b9 (by rcases C with rfl | rfl <;> omega)) (Canon.tr_seg ?_);simp only [zmC,zmN,zgZ,zgS];go_wp2_with fail;refine Canon.tr_to (Canon.tr_one ?_);simp only [zgZ,zgS];go_wp2_with fail;have m7:=(Below.refl a.heap.size a).alloc zl (.cells #[.int .i64 0,.slice none 0 0,.slice none 0 0,.slice none 0 0] 67);refine Canon.tr_end (fun b9 C=>(m7.block b9 (by rcases C with rfl | rfl <;> omega)).trans (I.block b9 (by rcases C with rfl | rfl <;> omega))) (Canon.tr_one ?_);simp only [zgZ,zgS];go_wp2_with fail;have ho:=Bk.new a 67 [.int .i64 (n:Int),.slice aa T.length af,.slice ac P.length ag,.slice ae K.length ah];have bt:=(Below.refl a.heap.size a).alloc zl (.cells #[.int .i64 (n:Int),.slice aa T.length af,.slice ac P.length ag,.slice ae K.length ah] 67);obtain ⟨l1,l2,l3⟩:=dw.out (a.alloc (.cells #[.int .i64 (n:Int),.slice aa T.length af,.slice ac P.length ag,.slice ae K.length ah] 67)) fun b _ h2=>bt.block b h2
           have aq:GluedB d (n:Int) T P K (.pointer (some ⟨a.heap.size,0,none⟩)) (.int .i64 0) (a.alloc (.cells #[.int .i64 (n:Int),.slice aa T.length af,.slice ac P.length ag,.slice ae K.length ah] 67)):=⟨_,_,_,_,_,_,_,rfl,rfl,ho,l1,l2,l3,cs.trans (bt.mono cs.size)⟩;clear ho l1 l2 l3;have bn:=zz aq;clear aq;refine Canon.tr_end (fun b9 C=>(bt.block b9 (by rcases C with rfl | rfl <;> omega)).trans (I.block b9 (by rcases C with rfl | rfl <;> omega))) (Canon.tr_seg ?_);simp only [zmC,zmN,zgZ,zgS];go_wp2_with fail;refine Canon.tr_to (Canon.tr_fin (by rfl) (zF ⟨.inl ⟨_,rfl,.inl rfl,by rw [q0];rfl⟩,zF ⟨.inl ⟨_,rfl,.inr rfl,by rw [t0];rfl⟩,zF ⟨.inl ⟨_,rfl,.inr rfl,by rw [t1];rfl⟩,fun _ h=>by cases h⟩⟩⟩) ?_);go_wp2_with fail;go_meet;exact bn.out
          ·simp only [zgZ,zgS];go_wp2_with fail;have ju:=Bk.new z 67 [.int .i64 0,.slice none 0 0,.slice none 0 0,.slice none 0 0];have ao:=(Below.refl z.heap.size z).alloc zl (.cells #[.int .i64 0,.slice none 0 0,.slice none 0 0,.slice none 0 0] 67);have pi:(z.alloc (.cells #[.int .i64 0,.slice none 0 0,.slice none 0 0,.slice none 0 0] 67)).heap.size=z.heap.size+1:=by simp
           generalize z.alloc (.cells #[.int .i64 0,.slice none 0 0,.slice none 0 0,.slice none 0 0] 67)=W1 at *;have hj:=fs.out W1 (gw.trans (ao.mono o6));obtain ⟨fr,li⟩:=zz2 hj ju;clear hj ju;refine Canon.tr_end (fun b9 C=>ao.block b9 (by rcases C with rfl | rfl <;> omega)) (Canon.tr_one ?_);simp only [zgZ,zgS];go_wp2_with fail;refine fr.out.mono ?_;rintro e a ⟨⟨v,c,rfl,dk,_,aj⟩,I⟩;obtain rfl:=a5.out.1 c dk;obtain ⟨aa,ac,ae,af,ag,ah,rfl,_⟩:=glued_shape (a5.out.2 a v (aj rfl a fun _ _ _=>rfl));have ma:=I.size;have ca:=fun H (h:∀ b,W1.heap.size<=b->b<a.heap.size->H.heap[b]? = a.heap[b]?)=>glued_sl (a5.out.2 H _ (aj rfl H h))
           have a2:=li.out.below I (by omega);have cs:=de.trans ((ao.trans (I.mono (by omega))).mono de.size);clear dk aj;have dw:=zz ca;clear ca;go_wp2_with fail;refine Canon.tr_end (fun b9 C=>(I.block b9 (by rcases C with rfl | rfl <;> omega)).trans (ao.block b9 (by rcases C with rfl | rfl <;> omega))) (Canon.tr_seg ?_);simp only [zmC,zmN,zgZ,zgS];go_wp2_with fail;have s0:a.cell? ⟨z.heap.size,0,none⟩=some (.int .i64 0):=a2.cell 0;have r5:a.cell? ⟨z.heap.size,1,none⟩=some (.slice none 0 0):=a2.cell 1;have r6:a.cell? ⟨z.heap.size,2,none⟩=some (.slice none 0 0):=a2.cell 2;have r7:a.cell? ⟨z.heap.size,3,none⟩=some (.slice none 0 0):=a2.cell 3;have sf:=a2.frozen;have js:=(((a2.set 0 (.int .i64 (n:Int))).set 1 (.slice aa T.length af)).set 2 (.slice ac P.length ag)).set 3 (.slice ae K.length ah);have cw:d.heap.size<=z.heap.size:=de.size;have jl:=(((cs.setCell (p:=⟨z.heap.size,0,none⟩) cw (.int .i64 (n:Int))).setCell (p:=⟨z.heap.size,1,none⟩) cw (.slice aa T.length af)).setCell (p:=⟨z.heap.size,2,none⟩) cw (.slice ac P.length ag)).setCell (p:=⟨z.heap.size,3,none⟩) cw (.slice ae K.length ah);have cz:∀ b,b≠z.heap.size->((((a.setCell ⟨z.heap.size,0,none⟩ (.int .i64 (n:Int))).setCell ⟨z.heap.size,1,none⟩ (.slice aa T.length af)).setCell ⟨z.heap.size,2,none⟩ (.slice ac P.length ag)).setCell ⟨z.heap.size,3,none⟩ (.slice ae K.length ah)).heap[b]? = a.heap[b]?:=fun b hb=>by
            rw [Below.heap_setCell _ ⟨z.heap.size,3,none⟩ _ b hb,Below.heap_setCell _ ⟨z.heap.size,2,none⟩ _ b hb,Below.heap_setCell _ ⟨z.heap.size,1,none⟩ _ b hb,Below.heap_setCell _ ⟨z.heap.size,0,none⟩ _ b hb]
           obtain ⟨l1,l2,l3⟩:=dw.out _ fun b h1 _=>cz b (by omega)
           have aq:GluedB d (n:Int) T P K (.pointer (some ⟨z.heap.size,0,none⟩)) (.int .i64 0) _:=⟨_,_,_,_,_,_,_,rfl,rfl,js,l1,l2,l3,jl⟩;clear js l1 l2 l3 jl;obtain ⟨o9,bn,fz⟩:=zz3 a2 aq cz;clear a2 aq cz;refine Canon.tr_to (Canon.tr_one ?_);simp only [zgZ,zgS];go_wp2_with fail;refine Canon.tr_end (fun b9 C=>((fz.out b9 (by rcases C with rfl | rfl <;> omega)).trans (I.block b9 (by rcases C with rfl | rfl <;> omega))).trans (ao.block b9 (by rcases C with rfl | rfl <;> omega))) (Canon.tr_seg ?_);simp only [zmC,zmN,zgZ,zgS];go_wp2_with fail;refine Canon.tr_to (Canon.tr_fin (by rfl) (zF ⟨.inl ⟨_,rfl,.inl rfl,by rw [q0];rfl⟩,zF ⟨.inl ⟨_,rfl,.inr rfl,by rw [t0];rfl⟩,zF ⟨.inl ⟨_,rfl,.inr rfl,by rw [t1];rfl⟩,fun _ h=>by cases h⟩⟩⟩) ?_);go_wp2_with fail;go_meet;exact bn.out
         case rest =>
          obtain ⟨g,aa,ac,ae,af,ag,ah,rfl,rfl,ch,l1,l2,l3,h7⟩:=hcut;obtain ⟨H,nn⟩:∃ H,H=wc:=⟨_,rfl⟩;subst nn;have qu:=h7.size;have ak:Below w3.heap.size w3 H:=gz.trans (((f.trans (bd.mono bg)).trans (h7.mono (by omega))).mono (by omega));have eu:Below w.heap.size w H:=et.trans (((f.trans (bd.mono bg)).trans (h7.mono (by omega))).mono (by omega));have b7:=lg.out.below ak (by omega);have k0:H.cell? ⟨w.heap.size,0,none⟩=some (.int .i64 (n:Int)):=b7.cell 0;have k1:H.cell? ⟨w.heap.size,1,none⟩=some (.slice A T.length ba):=b7.cell 1;have k2:H.cell? ⟨w.heap.size,2,none⟩=some (.slice Ap P.length Z):=b7.cell 2;have k3:H.cell? ⟨w.heap.size,3,none⟩=some (.slice Ak K.length Y):=b7.cell 3;have z0:H.cell? ⟨g,0,none⟩=some (.int .i64 (n:Int)):=ch.cell 0;have z1:H.cell? ⟨g,1,none⟩=some (.slice aa T.length af):=ch.cell 1;have z2:H.cell? ⟨g,2,none⟩=some (.slice ac P.length ag):=ch.cell 2;have z3:H.cell? ⟨g,3,none⟩=some (.slice ae K.length ah):=ch.cell 3;have i8:=same45_calls (w:=H) (B:=H.heap.size) (Na:=(n:Int)) (Nb:=(n:Int)) zl l1 ((l0.out.below keeps_tri ak).keep keeps_tri (Below.refl _ _) ak.size) l2 ((kw.out.below keeps_tri ak).keep keeps_tri (Below.refl _ _) ak.size) l3 ((ko.out.below keeps_int ak).keep keeps_int (Below.refl _ _) ak.size) (by omega) (by omega) (by omega);rw [decide_eq_true (show ((n:Int)=(n:Int)/\T=T)/\P=P/\K=K from ⟨⟨rfl,rfl⟩,rfl,rfl⟩)] at i8;obtain ⟨on,o7,pu,pw,px,m2⟩:=zz6 ch b7 l1 l2 l3 i8;clear ch b7 l1 l2 l3 i8;go_wp2_with fail;all_goals try omega
          refine m2.out.mono ?_;rintro e ra ⟨rfl,bt⟩;have n8:=eu.trans (bt.mono eu.size);go_wp2_with fail;go_ret;exact ⟨rfl,n8⟩
        ·have qm:(s1 == s2)=false:=beq_eq_false_iff_ne.2 ia;have i2:=J (by rw [b5];exact ia);obtain ⟨bp,ix,lw,lc,l9,it,ks⟩:=zz7 J i2 ci bw cb b5 c8;clear J i2 ci bw cb b5 c8;go_wp2_with fail;all_goals try omega
         refine Canon.wp_region_text mixed (by kernel_rfl) ?_;go_wp2_with fail;all_goals try omega
         refine Canon.chk (by rfl) ?_;go_wp2_with fail;all_goals try omega
         exact ⟨⟨t+1,by omega,by simp,ix.out,bz⟩,by simp [intOf];omega⟩
       ·obtain rfl:t=q.length:=by omega
        obtain ⟨t2,ni,na⟩:=m3.out;exact absurd na (ci t2 ni)
end Go.Proofs.YtpbdcppaiafbgaaGreat
