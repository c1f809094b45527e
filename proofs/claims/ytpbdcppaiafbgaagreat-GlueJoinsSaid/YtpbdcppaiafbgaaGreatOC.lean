/- Walks: the edges of a loop (glue's edges). Za6: a loop. -/
import Derived.Test.YtpbdcppaiafbgaaGreatApp
import Derived.Test.YtpbdcppaiafbgaaGreatIJ
import Derived.Test.YtpbdcppaiafbgaaGreatFI
set_option maxRecDepth 100000
set_option maxHeartbeats 8000000
namespace Go.Mesh
def lpE(l:List Int):List (Int×Int):=(List.range l.length).map fun i=>(l.getD i 0,l.getD ((i+1)%l.length) 0)
theorem Zez(l:List Int):(lpE l).length=l.length:=by unfold lpE;simp
theorem Zlf{l:List Int}{i:Nat}(h:i<l.length):(lpE l)[i]'(by rw[Zez];exact h)=(l.getD i 0,l.getD ((i+1)%l.length) 0):=by unfold lpE;simp
def lpN(N:Int)(T:List T3)(l:List Int):Int :=
 if l.any (fun v=>decide (v<0\/N<=v))=true then 2 else if ¬l.Nodup then 3 else if l.length<3 then 3 else
  if(lpE l).any (fun e=>!near T e.1 e.2)=true then 8 else if(lpE l).any (fun e=>(facing T e).isNone || (facing T (e.2,e.1)).isNone)=true then 13 else 0
section
variable {N : Int} {T : List T3} {l : List Int}
theorem lpN_rng{k:Nat}(hk:k<l.length)(h:l[k]<0\/N<=l[k]):lpN N T l=2:=by
 unfold lpN;rw[if_pos (List.any_eq_true.2 ⟨l[k],zM hk,zY h⟩)]
theorem Zm8(hr:∀v∈l,0<=v/\v<N):¬l.any (fun v=>decide (v<0\/N<=v))=true:=fun h=>by
 obtain⟨v,b,a⟩:=List.any_eq_true.1 h;have:=hr v b;have:=of_decide_eq_true a;omega
theorem not_nodup{k:Nat}(hk:k<l.length)(h:l[k]∈l.take k):¬l.Nodup:=fun hn=>by
 obtain⟨j,a,e⟩:=zE h;rw[List.length_take]at a;rw[List.getElem_take]at e;have:=(List.getElem_inj hn).1 e;omega
theorem lpN_twice(hr:∀v∈l,0<=v/\v<N){k:Nat}(hk:k<l.length)(h:l[k]∈l.take k):lpN N T l=3:=by
 unfold lpN;rw[if_neg (Zm8 hr),if_pos (not_nodup hk h)]
theorem lpN_few(hr:∀v∈l,0<=v/\v<N)(hn:l.Nodup)(h:l.length<3):lpN N T l=3:=by
 unfold lpN;rw[if_neg (Zm8 hr),if_neg (fun h9=>h9 hn),if_pos h]
theorem lpN_near(hr:∀v∈l,0<=v/\v<N)(hn:l.Nodup)(h3:¬l.length<3){i:Nat}(hi:i<l.length)(h:near T (l.getD i 0) (l.getD ((i+1)%l.length) 0)=false):lpN N T l=8:=by
 unfold lpN;rw[if_neg (Zm8 hr),if_neg (fun h9=>h9 hn),if_neg h3,if_pos (List.any_eq_true.2 ⟨_,zM (l:=lpE l) (by rw[Zez];exact hi),by rw[Zlf hi,h];rfl⟩)]
theorem lpE_all{p:Int×Int->Bool}(h:∀i,i<l.length->p (l.getD i 0,l.getD ((i+1)%l.length) 0)=false):¬(lpE l).any p=true:=fun h9=>by
 obtain⟨e,b,a⟩:=List.any_eq_true.1 h9;obtain⟨i,hi,rfl⟩:=zE b;rw[Zez]at hi;rw[Zlf hi,h i hi]at a;cases a
theorem lpN_rim(hr:∀v∈l,0<=v/\v<N)(hn:l.Nodup)(h3:¬l.length<3)(h4:∀i,i<l.length->near T (l.getD i 0) (l.getD ((i+1)%l.length) 0)=true){i:Nat}(hi:i<l.length)
  (h:facing T (l.getD i 0,l.getD ((i+1)%l.length) 0)=none\/facing T (l.getD ((i+1)%l.length) 0,l.getD i 0)=none):lpN N T l=13:=by
 unfold lpN;rw[if_neg (Zm8 hr),if_neg (fun h9=>h9 hn),if_neg h3,if_neg (lpE_all fun i hi=>by simp only[];rw[h4 i hi];rfl),
  if_pos (List.any_eq_true.2 ⟨_,zM (l:=lpE l) (by rw[Zez];exact hi),by rw[Zlf hi];rcases h with h|h<;>rw[h]<;>simp⟩)]
theorem lpN_ok(hr:∀v∈l,0<=v/\v<N)(hn:l.Nodup)(h3:¬l.length<3)(h4:∀i,i<l.length->near T (l.getD i 0) (l.getD ((i+1)%l.length) 0)=true)
  (h5:∀i,i<l.length->(∃c,facing T (l.getD i 0,l.getD ((i+1)%l.length) 0)=some c)/\∃d,facing T (l.getD ((i+1)%l.length) 0,l.getD i 0)=some d):lpN N T l=0:=by
 unfold lpN;rw[if_neg (Zm8 hr),if_neg (fun h9=>h9 hn),if_neg h3,if_neg (lpE_all fun i hi=>by simp only[];rw[h4 i hi];rfl),
  if_neg (lpE_all fun i hi=>by
   obtain⟨⟨c,a⟩,d,b⟩:=h5 i hi;simp only[];rw[a,b];rfl)]
end
end Go.Mesh
namespace Go.Proofs.YtpbdcppaiafbgaaGreat
open Go Go.RowKit Go.Words Go.Mesh
theorem Zhi{l:List Int}{i:Nat}(h:i<l.length):l.getD i 0=l[i]:=by rw[zD,zG h];rfl
theorem edge45_calls{w:World}{B gl cap:Nat}{A:Option Addr}{l:List Int}(hB0:B<=w.heap.size)(hbx:Bk w gl 28 [.slice A l.length cap])(hl:Sl 1 RInt w B (.slice A l.length cap) l)(hll:l.length<=1000000){i:Nat}(hi:i<l.length) :
  Calls Tryz.prog 153 #[.int .i64 (i:Int),.pointer (some ⟨gl,0,none⟩)] w fun e w'=>e=.returned (.agg #[.int .i64 (l.getD i 0),.int .i64 (l.getD ((i+1)%l.length) 0)])/\Below w.heap.size w w':=by
 obtain⟨r,g⟩:∃r,(i+1)%l.length=r:=⟨_,rfl⟩;have m:r<l.length:=by rw[<- g];exact Nat.mod_lt _ (by omega)
 have v:((i:Int)+1)%(l.length:Int)=(r:Int):=by rw[<- g,Int.natCast_emod];rfl
 have O:((i:Int)+1).tmod (l.length:Int)=(r:Int):=by rw[Int.tmod_eq_emod_of_nonneg (by omega)];exact v
 rw[g,Zhi hi,Zhi m];have h:=(zr w.heap.size w).alloc zl (.cells #[.int .i64 0,.int .i64 0] 39);have a:=Bk.new w 39 [.int .i64 0,.int .i64 0];have c:=hbx.alloc (.cells #[.int .i64 0,.int .i64 0] 39);have d:=hl.below zadq (h.mono hB0);have N:=hbx.lt;generalize z:w.alloc (.cells #[.int .i64 0,.int .i64 0] 39)=f at *;obtain⟨b,o,rfl,U,R⟩:=d.int_at hi;obtain⟨T,V,t,_,S⟩:=d.int_at m;injection t with t;injection t with he1 he2;subst he1;subst he2;generalize l[i]=x at *;generalize l[r]=y at *;generalize u:l.length=n at *;have H:f.cell? ⟨w.heap.size,0,none⟩=some (.int .i64 0):=a.cell 0;have I:f.cell? ⟨w.heap.size,1,none⟩=some (.int .i64 0):=a.cell 1;have W:=a.frozen;have G:f.cell? ⟨gl,0,none⟩=some (.slice (some ⟨b,o,none⟩) n cap):=c.cell 0;have k:=((a.set 0 (.int .i64 x)).set 1 (.int .i64 y));have j:=(h.setCell (p:=⟨w.heap.size,0,none⟩) zl (.int .i64 x)).setCell (p:=⟨w.heap.size,1,none⟩) zl (.int .i64 y);have P:f.drew.cell? ⟨w.heap.size,0,none⟩=some (.int .i64 0):=H;have Q:f.drew.cell? ⟨w.heap.size,1,none⟩=some (.int .i64 0):=I;have M:f.drew.cell? ⟨gl,0,none⟩=some (.slice (some ⟨b,o,none⟩) n cap):=G;obtain⟨D,J,F,E,C,s,q,L,K⟩:=zz9 hbx hl d a c k j g u;clear hbx hl d a c k j g u;go_enter Tryz.func153,Tryz.ntmps153;go_wp2_with fail;clear z;refine Canon.wp_region_text mixed (by kernel_rfl) ?_;go_wp2_with fail;refine Canon.chk (by rfl) ?_;go_wp2_with fail;exact Zbg rfl rfl s.out.drew Tryz.underlying39 rfl (by kernel_rfl) rfl ⟨rfl,q.out.drew⟩
theorem infoE45:(Tryz.prog.info? 39).map (fun i=>(i.zero,i.size,i.bytes))=some (some (.agg #[.int .i64 0,.int .i64 0]),2,16):=by kernel_rfl
def LoopEnd(w':World)(base:Nat)(N:Int)(T:List T3)(l:List Int)(v:Value)(c:Int):Prop :=
 c=lpN N T l/\(c≠0->v=.slice none 0 0)/\(c=0->w'.ownsRow base 39 2 v l.length (Zbl (lpE l)))
theorem Zzs{w:World}{B:Nat}{tv lv:Value}{N:Int}{T:List T3}{l:List Int}(hB0:B<=w.heap.size)(ht:Tab w B tv N T)(hNm:N<=4096)(hl:Sl 1 RInt w B lv l)(hok:∀x∈l,I64 x)(hll:l.length<=1000) :
  Calls Tryz.prog 125 #[tv,lv] w fun e w'=>(∃v c,e=.returned (.tuple #[v,.int .i64 c])/\LoopEnd w' w.heap.size N T l v c)/\Below w.heap.size w w':=by
 obtain⟨A,W,rfl,f6⟩:=hl.form;have aw:=((zr w.heap.size w).alloc zl (.cells #[.slice A l.length W] 28)).alloc (by simp) (.map #[] 0);have ck:=(Bk.new w 28 [.slice A l.length W]).alloc (.map #[] 0);have da:Mp enc1 I64 evT ((w.alloc (.cells #[.slice A l.length W] 28)).alloc (.map #[] 0)) (w.heap.size+1) ([]:List (Int×Unit)):=Mp.new' (by simp);have eo:w.heap.size+2<=((w.alloc (.cells #[.slice A l.length W] 28)).alloc (.map #[] 0)).heap.size:=by simp
 have d8:=hl.below zadq (aw.mono hB0);have cs:=ht.below aw hB0;obtain⟨t0,ef⟩:=(show TabN w B tv N T from .inl ht).form;subst ef;generalize eh:(w.alloc (.cells #[.slice A l.length W] 28)).alloc (.map #[] 0)=w0 at *;have c0:w0.cell? ⟨w.heap.size,0,none⟩=some (.slice A l.length W):=ck.cell 0;have dc:=Zmo cs;have fb:=zr w0.heap.size w0;have d9:∀k (hk:k<l.length),I64 l[k]:=fun k hk=>hok _ (zM hk)
 have eb:=@run_makeMap Tryz.prog;obtain⟨dy,dj,di,dl,e8,f0,c9,ez,dk⟩:=zz9 hl d8 ck da ht cs dc hok d9;clear hl d8 ck da ht cs dc hok d9;go_enter Tryz.func125,Tryz.ntmps125;go_wp2_with fail;clear eh eb;go_loopw[20] (fun iv wr=>∃k:Nat,k<=l.length/\iv=.int .i64 (k:Int)/\(∀v∈l.take k,0<=v/\v<N)/\wr=w0) (fun iv _=>l.length-(intOf iv).toNat)
 case atStart=>exact⟨0,by omega,rfl,fun v hv=>by simp at hv,rfl⟩
 case round =>
  obtain⟨k,hk,rfl,L,rfl⟩:=hrel;by_cases Z:k<l.length
  ·obtain⟨b,o,rfl,hb,a1⟩:=dj.out.int_at Z;have f:=lpN_rng (N:=N) (T:=T) Z;have ac:0<=l[k]/\l[k]<N->∀v∈l.take (k+1),0<=v/\v<N:=fun h9 v hv=>by
    rw[zT Z,zP,zU]at hv;rcases hv with hv|rfl
    ·exact L v hv
    ·exact h9
   generalize l[k]=x at *;by_cases em:x<0
   ·have n:=f (.inl em);obtain⟨c8,E,c3,g⟩:=zz4 L f ac n;clear L f ac n;go_wp2_with fail;all_goals try omega
    go_ret2;exact⟨⟨_,2,rfl,g.out.symm,fun _=>rfl,fun h9=>absurd h9 (by decide)⟩,aw⟩
   by_cases en:x<N
   ·have cp:=ac ⟨by omega,en⟩;obtain⟨c8,E,c3,cx⟩:=zz4 L f ac cp;clear L f ac cp;go_wp2_with fail;all_goals try omega
    refine c9.out.mono ?_;rintro e z ⟨rfl,rfl⟩;go_wp2_with fail;all_goals try omega
    exact⟨⟨k+1,by omega,by simp,cx.out,trivial⟩,by simp[intOf];omega⟩
   ·have n:=f (.inr (by omega));obtain⟨c8,E,c3,g⟩:=zz4 L f ac n;clear L f ac n;go_wp2_with fail;all_goals try omega
    refine c9.out.mono ?_;rintro e z ⟨rfl,rfl⟩;go_wp2_with fail;all_goals try omega
    go_ret2;exact⟨⟨_,2,rfl,g.out.symm,fun _=>rfl,fun h9=>absurd h9 (by decide)⟩,aw⟩
  ·obtain rfl:k=l.length:=by omega
   have cq:∀v∈l,0<=v/\v<N:=by
    rw[List.take_length]at L;exact L
   clear L;have H:=zz cq;clear cq;go_wp2_with fail;go_loopw[35] (fun iv wr=>∃(k:Nat) (S:List (Int×Unit)),k<=l.length/\iv=.int .i64 (k:Int)/\(l.take k).Nodup/\Mp enc1 I64 evT wr (w.heap.size+1) S/\(∀x,(Words.look S x).isSome=true↔x∈l.take k)/\Bk wr w.heap.size 28 [.slice A l.length W]/\Below w.heap.size w wr/\w.heap.size+2<=wr.heap.size) (fun iv _=>l.length-(intOf iv).toNat)
   case atStart=>exact⟨0,[],by omega,rfl,by simp,dl.out,fun x=>by simp[Words.look],di.out,aw,eo⟩
   case round =>
    obtain⟨k,S,hk,rfl,a0,b2,t,G,X,fc⟩:=hrel;obtain⟨D,ej⟩:∃D,D=wr:=⟨_,rfl⟩;subst ej;have d0:D.cell? ⟨w.heap.size,0,none⟩=some (.slice A l.length W):=G.cell 0;have K:=dy.out.below zadq (X.mono hB0);by_cases Z:k<l.length
    ·obtain⟨b,o,rfl,hb,a1⟩:=K.int_at Z;have b3:=lpN_twice (N:=N) (T:=T) H.out Z;have cr:=dk.out k Z;have r:l.take (k+1)=l.take k++[l[k]]:=zT Z;generalize l[k]=s at *;by_cases ag:s∈l.take k
     ·have n:=b3 ag;have bd:((Words.look S s).map evT).getD (.bool false)=.bool true:=by
       obtain⟨y,hy⟩:=Option.isSome_iff_exists.1 ((t s).2 ag);rw[hy];rfl
      obtain⟨dm,an,c1,am,b9,dp,a8,g⟩:=zz8 a0 b2 t G K b3 r n;clear a0 b2 t G K b3 r n;go_wp2_with(at_lookup;refine zanq _ rfl _ _ 85 rfl 3 4 keyI Tryz.underlying85 Zbq (w.heap.size+1) S rfl an.out s rfl cr ?_;rw[bd])
      trace_state
      all_goals try omega
      go_ret2;exact⟨⟨_,3,rfl,g.out.symm,fun _=>rfl,fun h9=>absurd h9 (by decide)⟩,X⟩
     ·have bd:((Words.look S s).map evT).getD (.bool false)=.bool false:=by
       cases hy:Words.look S s with
       | none=>rfl
       | some y=>exact absurd ((t s).1 (by rw[hy];rfl)) ag
      have b0:∀x:Int,(Words.look (Words.put S s ()) x).isSome=true↔x∈l.take (k+1):=fun x=>by
       rw[look_put,r,zP,zU];by_cases bp:s=x
       ·rw[if_pos bp];simp[bp]
       ·rw[if_neg bp,t x];exact⟨.inl,fun h9=>h9.elim id fun h8=>absurd h8.symm bp⟩
      have co:(l.take (k+1)).Nodup:=by
       rw[r,List.nodup_append];exact⟨a0,by simp,fun a ha b hb e=>ag (by rw[zU]at hb;rw[<- hb,<- e];exact ha)⟩
      obtain⟨dm,an,c1,am,b9,dp,a8,ew,br,cw⟩:=zz10 a0 b2 t G K b3 r ag b0 co;clear a0 b2 t G K b3 r ag b0 co;go_wp2_with(first|(at_mapUpdate;refine zbdq _ rfl _ _ _ 85 rfl 3 4 keyI Tryz.underlying85 (w.heap.size+1) S rfl an.out s rfl cr () rfl ?_;intro J cn ch f7;obtain⟨cv,ak⟩:=zz2 cn ch;clear cn ch)|(at_lookup;refine zanq _ rfl _ _ 85 rfl 3 4 keyI Tryz.underlying85 Zbq (w.heap.size+1) S rfl an.out s rfl cr ?_;rw[bd]));all_goals try omega
      have e9:=X.grown ak.out (by omega) (fun q hq=>by cases hq;omega);have dw:=am.out.grown ak.out (fun e=>by injection e;omega);have dd:=ak.out.size;exact⟨⟨k+1,_,by omega,by simp,cw.out,cv.out,br.out,dw,e9,by omega⟩,by simp[intOf];omega⟩
    ·obtain rfl:k=l.length:=by omega
     have aa:l.Nodup:=by rw[List.take_length]at a0;exact a0
     clear a0 b2 t;have r:=e8.out.below X hB0;by_cases h3:l.length<3
     ·have n:=lpN_few (N:=N) (T:=T) H.out aa h3;obtain⟨a2,am,b9,a8,g⟩:=zz5 aa G K r n;clear aa G K r n;go_wp2_with fail;all_goals try omega
      go_ret2;exact⟨⟨_,3,rfl,g.out.symm,fun _=>rfl,fun h9=>absurd h9 (by decide)⟩,X⟩
     have ee:=zr D.heap.size D;have d3:B<=D.heap.size:=by omega
     have d4:∀wz,Below D.heap.size D wz->∀i,i<l.length->Calls Tryz.prog 153 #[.int .i64 (i:Int),.pointer (some ⟨w.heap.size,0,none⟩)] wz fun e w'=>e=.returned (.agg #[.int .i64 (l.getD i 0),.int .i64 (l.getD ((i+1)%l.length) 0)])/\Below wz.heap.size wz w' :=
      fun wz hz i hi=>edge45_calls (show B<=wz.heap.size by have:=hz.size;omega) (G.below hz G.lt) (K.below zadq (hz.mono d3)) (by omega) hi
     have db:∀wz,Below D.heap.size D wz->Tab wz B (.pointer t0) N T:=fun wz hz=>r.below hz d3
     have d7:∀i,i<l.length->0<=l.getD i 0/\l.getD i 0<N:=fun i hi=>by
      rw[Zhi hi];exact H.out _ (zM hi)
     obtain⟨a2,am,b9,a8,bw,bb,aj⟩:=zz7 aa G K r d4 db d7;clear aa G K r d4 db d7;go_wp2_with fail;all_goals try omega
     go_loopw[51] (fun iv wr=>∃i:Nat,i<=l.length/\iv=.int .i64 (i:Int)/\(∀j,j<i->near T (l.getD j 0) (l.getD ((j+1)%l.length) 0)=true)/\Below D.heap.size D wr) (fun iv _=>l.length-(intOf iv).toNat)
     case atStart=>exact⟨0,by omega,rfl,fun j hj=>by omega,ee⟩
     case round =>
      obtain⟨i,hi,rfl,Q,ay⟩:=hrel;obtain⟨O,ei⟩:∃O,O=wr:=⟨_,rfl⟩;subst ei;have de:=ay.size;have e0:=(ay.cell (p:=⟨w.heap.size,0,none⟩) (by show w.heap.size<_;omega)).trans d0;by_cases cj:i<l.length
      ·have he:=bw.out O ay i cj;have be:(i+1)%l.length<l.length:=Nat.mod_lt _ (by omega);have f:=lpN_near (N:=N) (T:=T) H.out a2.out h3 cj;have P:near T (l.getD i 0) (l.getD ((i+1)%l.length) 0)=true->∀j,j<i+1->near T (l.getD j 0) (l.getD ((j+1)%l.length) 0)=true:=fun h9 j hj=>by
        by_cases e:j=i
        ·subst e;exact h9
        ·exact Q j (by omega)
       have hx:=aj.out i cj;have hy:=aj.out _ be;have hn:=fun wz (hz:Below D.heap.size D wz)=>Zjs (.inl (bb.out wz hz)) (l.getD i 0) (l.getD ((i+1)%l.length) 0) (by unfold I64;omega) (by unfold I64;omega)
       generalize l.getD i 0=x at *;generalize l.getD ((i+1)%l.length) 0=y at *;obtain⟨bv,E,a5,dz,a7⟩:=zz5 he f P hn Q;clear he f P hn Q;go_wp2_with fail;all_goals try omega
       refine bv.out.mono ?_;rintro e z ⟨rfl,ax⟩;have cb:=ay.trans (ax.mono de);obtain⟨J,R⟩:∃J,z.alloc (.cells #[.int .i64 x,.int .i64 y] 39)=J:=⟨_,rfl⟩;have ap:Below D.heap.size D J:=by rw[<- R];exact cb.alloc cb.size _
       have C:Bk J z.heap.size 39 [.int .i64 x,.int .i64 y]:=by rw[<- R];exact Bk.new z _ _
       have e1:J.cell? ⟨z.heap.size,0,none⟩=some (.int .i64 x):=C.cell 0;have e2:J.cell? ⟨z.heap.size,1,none⟩=some (.int .i64 y):=C.cell 1;have ai:=dz.out J ap;have M:=X.trans (ap.mono (by omega));cases bk:near T x y with
       | false =>
        rw[bk]at ai;have n:=E.out bk;obtain⟨a6,ba,g⟩:=zz3 C ai n;clear C ai n;go_wp2_with fail;clear R;refine ba.out.mono ?_;rintro e w4 ⟨rfl,F⟩;have U:=M.trans (F.mono (by have:=M.size;omega));go_wp2_with fail;go_ret2;exact⟨⟨_,8,rfl,g.out.symm,fun _=>rfl,fun h9=>absurd h9 (by decide)⟩,U⟩
       | true =>
        rw[bk]at ai;have az:=a5.out bk;obtain⟨a6,ba,b7⟩:=zz3 C ai az;clear C ai az;go_wp2_with fail;clear R;refine ba.out.mono ?_;rintro e w4 ⟨rfl,F⟩;have dr:=ap.trans (F.mono ap.size);go_wp2_with fail;exact⟨⟨i+1,by omega,by simp,b7.out,dr⟩,by simp[intOf];omega⟩
      ·obtain rfl:i=l.length:=by omega
       have bm:O.ownsRow O.heap.size 39 2 (.slice none 0 0) 0 (Zbl ((lpE l).take 0)):=zn _ _ _ _;have ed:=zr O.heap.size O;obtain⟨a7,c4⟩:=zz2 Q bm;clear Q bm;go_wp2_with fail;go_loopw[12,67] (fun lv iv wr=>∃(m:Nat) (A5:Option Addr) (ao:Nat),m<=l.length/\iv=.int .i64 (m:Int)/\lv=.slice A5 m ao/\(∀j,j<m->(∃c,facing T (l.getD j 0,l.getD ((j+1)%l.length) 0)=some c)/\∃d,facing T (l.getD ((j+1)%l.length) 0,l.getD j 0)=some d)/\wr.ownsRow O.heap.size 39 2 (.slice A5 m ao) m (Zbl ((lpE l).take m))/\Below O.heap.size O wr) (fun _ iv _=>l.length-(intOf iv).toNat)
       case atStart=>exact⟨0,none,0,by omega,rfl,rfl,fun j hj=>by omega,c4.out,ed⟩
       case round =>
        obtain⟨m,A5,ao,hm,rfl,rfl,I,V,bi⟩:=hrel;obtain⟨wm,el⟩:∃wm,wm=wr:=⟨_,rfl⟩;subst el;have es:=bi.size;have ar:=ay.trans (bi.mono de);have dv:=X.trans (ar.mono (by omega));have fa:=(bi.cell (p:=⟨w.heap.size,0,none⟩) (by show w.heap.size<_;omega)).trans e0;by_cases b1:m<l.length
        ·have he:=bw.out wm ar m b1;have be:(m+1)%l.length<l.length:=Nat.mod_lt _ (by omega);have f:=lpN_rim (N:=N) (T:=T) H.out a2.out h3 a7.out b1;have r:(lpE l).take (m+1)=(lpE l).take m++[(l.getD m 0,l.getD ((m+1)%l.length) 0)]:=by
          rw[zT (by rw[Zez];exact b1),Zlf b1]
         have P:(∃c,facing T (l.getD m 0,l.getD ((m+1)%l.length) 0)=some c)->(∃d,facing T (l.getD ((m+1)%l.length) 0,l.getD m 0)=some d)->∀j,j<m+1->(∃c,facing T (l.getD j 0,l.getD ((j+1)%l.length) 0)=some c)/\∃d,facing T (l.getD ((j+1)%l.length) 0,l.getD j 0)=some d:=fun h8 h9 j hj=>by
          by_cases e:j=m
          ·subst e;exact⟨h8,h9⟩
          ·exact I j (by omega)
         have hx:=aj.out m b1;have hy:=aj.out _ be;have d5:=fun wz (hz:Below D.heap.size D wz)=>Zce (bb.out wz hz) (l.getD m 0) (l.getD ((m+1)%l.length) 0) (by unfold I64;omega) (by unfold I64;omega)
         have d6:=fun wz (hz:Below D.heap.size D wz)=>Zce (bb.out wz hz) (l.getD ((m+1)%l.length) 0) (l.getD m 0) (by unfold I64;omega) (by unfold I64;omega)
         generalize l.getD m 0=x at *;generalize l.getD ((m+1)%l.length) 0=y at *;obtain⟨bv,E,a5,df,dg,bx,bg,a8⟩:=zz8 he f P d5 d6 I V r;clear he f P d5 d6 I V r;go_wp2_with fail;all_goals try omega
         refine bv.out.mono ?_;rintro e z ⟨rfl,ax⟩;have cc:=ar.trans (ax.mono ar.size);have cd:=bi.trans (ax.mono es);have a3:=zafq bg.out ax zl;obtain⟨J,R⟩:∃J,z.alloc (.cells #[.int .i64 x,.int .i64 y] 39)=J:=⟨_,rfl⟩;have bc:Below z.heap.size z J:=by rw[<- R];exact(zr z.heap.size z).alloc zl _
         have aq:=cc.trans (bc.mono cc.size);have C:Bk J z.heap.size 39 [.int .i64 x,.int .i64 y]:=by rw[<- R];exact Bk.new z _ _
         have e1:J.cell? ⟨z.heap.size,0,none⟩=some (.int .i64 x):=C.cell 0;have e2:J.cell? ⟨z.heap.size,1,none⟩=some (.int .i64 y):=C.cell 1;have ae:=df.out J aq;have M:=X.trans (aq.mono (by omega));cases a9:facing T (x,y)with
         | none =>
          rw[show oi (facing T (x,y)) = -1 by rw[a9];rfl]at ae;have n:=E.out (.inl a9);obtain⟨av,a6,b5,g,bz⟩:=zz5 a3 C ae n a9;clear a3 C ae n a9;go_wp2_with fail;clear R;refine b5.out.mono ?_;rintro e w4 ⟨rfl,F⟩;have U:=M.trans (F.mono (by have:=M.size;omega));go_wp2_with fail;go_ret2;exact⟨⟨_,13,rfl,g.out.symm,fun _=>rfl,fun h9=>absurd h9 (by decide)⟩,U⟩
         | some c =>
          rw[show oi (facing T (x,y))=(c:Int) by rw[a9];rfl]at ae;obtain⟨av,a6,b5,bz⟩:=zz4 a3 C ae a9;clear a3 C ae a9;go_wp2_with fail;clear R;refine b5.out.mono ?_;rintro e w4 ⟨rfl,F⟩;have ds:=aq.trans (F.mono aq.size);have U:=M.trans (F.mono (by have:=M.size;omega));have dd:=bc.size;have ah:=a6.out.below F a6.out.lt;have e3:w4.cell? ⟨z.heap.size,0,none⟩=some (.int .i64 x):=ah.cell 0;have e4:w4.cell? ⟨z.heap.size,1,none⟩=some (.int .i64 y):=ah.cell 1;have af:=dg.out w4 ds;cases Y:facing T (y,x)with
          | none =>
           rw[show oi (facing T (y,x)) = -1 by rw[Y];rfl]at af;have n:=E.out (.inr Y);obtain⟨b8,b6,g,dh⟩:=zz4 ah af n Y;clear ah af n Y;go_wp2_with fail;all_goals try omega
           refine b6.out.mono ?_;rintro e w5 ⟨rfl,bh⟩;have du:=U.trans (bh.mono (by have:=U.size;omega));go_wp2_with fail;all_goals try omega
           go_ret2;exact⟨⟨_,13,rfl,g.out.symm,fun _=>rfl,fun h9=>absurd h9 (by decide)⟩,du⟩
          | some d =>
           rw[show oi (facing T (y,x))=(d:Int) by rw[Y];rfl]at af;have az:=a5.out ⟨c,bz.out⟩ ⟨d,Y⟩;obtain⟨b8,b6,dh,b7⟩:=zz4 ah af Y az;clear ah af Y az;go_wp2_with fail;all_goals try omega
           refine b6.out.mono ?_;rintro e w5 ⟨rfl,bh⟩;have bj:=b8.out.below bh b8.out.lt;have e5:w5.cell? ⟨z.heap.size,0,none⟩=some (.int .i64 x):=bj.cell 0;have e6:w5.cell? ⟨z.heap.size,1,none⟩=some (.int .i64 y):=bj.cell 1;have ca:=bc.trans ((F.trans (bh.mono F.size)).mono dd);have ce:=cd.trans (ca.mono cd.size);have ep:=ce.size;have au:=zafq av.out ca zl;obtain⟨w6,bq⟩:∃w6,w5.alloc (.cells #[.int .i64 x,.int .i64 y] 39)=w6:=⟨_,rfl⟩;have cm:Bk w6 w5.heap.size 39 [.int .i64 x,.int .i64 y]:=by rw[<- bq];exact Bk.new w5 _ _
           have bn:w6.ownsRow O.heap.size 39 2 (.slice A5 m ao) m (Zbl ((lpE l).take m)):=by rw[<- bq];exact au.alloc _
           have cf:Below O.heap.size O w6:=by rw[<- bq];exact ce.alloc ep _
           have er:=cf.size;have bl:∀ad,(some ⟨w5.heap.size,0,none⟩:Option Addr)=some ad->∀j u,([.int .i64 x,.int .i64 y]:List Value)[j]? = some u->w6.cell? (ad.add j)=some u:=fun ad e j u hj=>by
            injection e with e;subst e;rw[Addr.add_lit,Nat.zero_add];exact(cm.cell j).trans hj
           obtain⟨ex,e7,ey,c5,c2⟩:=zz5 bj au cm bn bl;clear bj au cm bn bl;go_wp2_with(at_builtin;refine zasq rfl (.tmp 87) (.tmp 89) 25 rfl O.heap.size Tryz.underlying25 infoE45 rfl (by decide) _ m (Zbl ((lpE l).take m)) rfl c5.out (some ⟨w5.heap.size,0,none⟩) 1 1 [.int .i64 x,.int .i64 y] rfl rfl (fun h=>by cases h) c2.out (by simp[Value.oneCell']) (by omega) (by decide) er ?_);all_goals try omega
           intro v' w7 a4 ci ea _;clear bq;obtain⟨A7,dq,rfl,eu⟩:=zaeq a4;rw[show Zbl ((lpE l).take m)++[.int .i64 x,.int .i64 y]=Zbl ((lpE l).take (m+1)) by rw[a8.out,Zmx]]at a4;have dt:=cf.trans ea;obtain⟨c6,et⟩:=zz2 a4 ci;clear a4 ci;go_wp2_with fail;all_goals try omega
           exact⟨⟨m+1,A7,dq,by omega,by simp,rfl,b7.out,c6.out,dt⟩,by simp[intOf];omega⟩
        ·obtain rfl:m=l.length:=by omega
         have n:=lpN_ok (N:=N) (T:=T) H.out a2.out h3 a7.out I;rw[List.take_of_length_le (by rw[Zez];exact zl)]at V;have bo:=zalq V (show w.heap.size<=O.heap.size by omega);obtain⟨bx,bg,c7,g⟩:=zz4 I V bo n;clear I V bo n;go_wp2_with fail;all_goals try omega
         go_ret2;exact⟨⟨_,0,rfl,g.out.symm,fun h9=>absurd rfl h9,fun _=>c7.out⟩,dv⟩
end Go.Proofs.YtpbdcppaiafbgaaGreat
namespace Go.Mesh
section
variable {N : Int} {T : List T3} {l : List Int}
theorem Zl7(h:lpN N T l=0):(∀v∈l,0<=v/\v<N)/\l.Nodup/\3<=l.length/\(∀i,i<l.length->near T (l.getD i 0) (l.getD ((i+1)%l.length) 0)=true) /\
  ∀i,i<l.length->(∃c,facing T (l.getD i 0,l.getD ((i+1)%l.length) 0)=some c)/\∃d,facing T (l.getD ((i+1)%l.length) 0,l.getD i 0)=some d:=by
 unfold lpN at h
 split at h
 ·cases h
 rename_i h1
 split at h
 ·cases h
 rename_i h2
 split at h
 ·cases h
 rename_i h3
 split at h
 ·cases h
 rename_i h4
 split at h
 ·cases h
 rename_i h5;refine⟨fun v hv=>?_,Classical.not_not.1 h2,by omega,fun i hi=>?_,fun i hi=>?_⟩
 ·rw[Bool.not_eq_true,List.any_eq_false]at h1;have:=h1 v hv;simp only[decide_eq_true_eq]at this;omega
 ·rw[Bool.not_eq_true,List.any_eq_false]at h4;have a:=h4 _ (zM (l:=lpE l) (by rw[Zez];exact hi));rw[Zlf hi]at a;simpa using a
 ·rw[Bool.not_eq_true,List.any_eq_false]at h5;have a:=h5 _ (zM (l:=lpE l) (by rw[Zez];exact hi));rw[Zlf hi]at a;simp only[Bool.or_eq_true,not_or,Option.isNone_iff_eq_none]at a;exact⟨Option.ne_none_iff_exists'.1 a.1,Option.ne_none_iff_exists'.1 a.2⟩
theorem Zq4(hn:l.Nodup){i j:Nat}(hi:i<l.length)(hj:j<l.length)(h:l.getD i 0=l.getD j 0):i=j:=by
 have e:∀k (hk:k<l.length),l.getD k 0=l[k]:=fun k hk=>by rw[zD,zG hk];rfl
 rw[e i hi,e j hj]at h;exact(List.getElem_inj hn).1 h
theorem next_at{i n:Nat}(hi:i<n):((i+1)%n=i+1/\i+1<n)\/((i+1)%n=0/\i+1=n):=by
 by_cases h:i+1<n
 ·exact .inl ⟨Nat.mod_eq_of_lt h,h⟩
 ·have:i+1=n:=by omega
  exact .inr ⟨by rw[this,Nat.mod_self],this⟩
theorem loop_once(hn:l.Nodup)(h3:3<=l.length){i j:Nat}(hij:i<j)(hj:j<l.length):nm (l.getD i 0,l.getD ((i+1)%l.length) 0)≠nm (l.getD j 0,l.getD ((j+1)%l.length) 0):=fun h=>by
 have c:(i+1)%l.length<l.length:=Nat.mod_lt _ (by omega);have d:(j+1)%l.length<l.length:=Nat.mod_lt _ (by omega);rcases nm_eq.1 h with⟨a,_⟩|⟨a,b⟩
 ·have:=Zq4 hn (by omega) hj a;omega
 ·have m:=Zq4 hn (by omega) d a;have n:=Zq4 hn c hj b;rcases next_at (show i<l.length by omega)with⟨e,f⟩|⟨e,f⟩<;>rcases next_at hj with⟨g,k⟩|⟨g,k⟩<;>omega
theorem Zm7(h:lpN N T l=0):Clean T (lpE l):=fun i hi=>by
 obtain⟨_,p,f,_,g⟩:=Zl7 h;have a:=hi;rw[Zez]at a;obtain⟨⟨c,k⟩,d,m⟩:=g i a;rw[addC_zero,Zlf a];simp only[];rw[k,m];refine⟨by show ¬((c:Int)<0);omega,by show ¬((d:Int)<0);omega,fun hm=>?_⟩;obtain⟨e,n,b⟩:=zB.1 hm;obtain⟨j,o,rfl⟩:=zE n;rw[List.length_take]at o;rw[List.getElem_take,Zlf (by omega)]at b;exact loop_once p f (show j<i by omega) a b
theorem Zqk{α:Type}{p:α->Bool}:∀ {L:List α} {i j:Nat},i<j->(hj:j<L.length)->(∀hi:i<L.length,p L[i]=true)->p L[j]=true->2<=L.countP p
 | [],_,_,_,hj,_,_=>absurd hj (Nat.not_lt_zero _)
 | x::L,i,0,h,_,_,_=>absurd h (Nat.not_lt_zero _)
 | x::L,0,j+1,_,hj,h1,h2=>by
  have a:p x=true:=h1 (by simp);have b:0<L.countP p:=List.countP_pos_iff.2 ⟨L[j]'(by simpa using hj),zM _,h2⟩;rw[List.countP_cons,if_pos a];omega
 | x::L,i+1,j+1,h,hj,h1,h2=>by
  have:=Zqk (p:=p) (L:=L) (i:=i) (j:=j) (by omega) (by simpa using hj) (fun hi=>h1 (by simpa using hi)) h2;rw[List.countP_cons];omega
theorem loop_ends(h3:3<=l.length){i:Nat}(hi:i<l.length):2<=Zbr (lpE l) (l.getD i 0):=by
 unfold Zbr;have at_:∀k,k<l.length->(hk:k<(lpE l).length)->(l.getD k 0=l.getD i 0\/l.getD ((k+1)%l.length) 0=l.getD i 0)->(fun e:Int×Int=>e.1==l.getD i 0 || e.2==l.getD i 0) ((lpE l)[k])=true:=fun k hk _ h9=>by
  rw[Zlf hk];simpa using h9
 by_cases a:i=0
 ·subst a;refine Zqk (i:=0) (j:=l.length-1) (by omega) (by rw[Zez];omega) (fun hk=>at_ 0 hi hk (.inl rfl)) (at_ (l.length-1) (by omega) _ (.inr ?_));rw[show l.length-1+1=l.length by omega,Nat.mod_self]
 ·refine Zqk (i:=i-1) (j:=i) (by omega) (by rw[Zez];exact hi) (fun hk=>at_ (i-1) (by omega) hk (.inr ?_)) (at_ i hi _ (.inl rfl));rw[show i-1+1=i by omega,Nat.mod_eq_of_lt hi]
theorem Zpb(h:lpN N T l=0):(lpE l).any (Zc6 N T (lpE l))=false:=by
 obtain⟨_,_,a,_,_⟩:=Zl7 h;rw[List.any_eq_false];intro e b;obtain⟨i,hi,rfl⟩:=zE b;rw[Zez]at hi;rw[Zlf hi];unfold Zc6;have:=loop_ends a hi;rw[zN (by simp only[];omega)];simp
theorem loop_code{c:Int}(hs:Surf N T)(h:lpN N T l=0)(k:AlongC N T (lpE l) c):(c=7/\4096<(newO N T ((lpE l).map nm)).length)\/c=0:=by
 by_cases e:(newO N T ((lpE l).map nm)).length<=4096
 ·exact .inr (k.is hs (Zm7 h) (Zpb h) e)
 ·rcases k with⟨g,_⟩|⟨_,a,f,_,d,b⟩|⟨_,_,⟨d,_⟩|⟨_,b,i⟩|⟨_,b,_⟩⟩
  ·exact absurd hs g
  ·exact absurd (d.symm.trans (Zm7 h a f)) b
  ·rw[Zpb h]at d;cases d
  ·exact .inl ⟨i,b⟩
  ·exact absurd b e
end
end Go.Mesh
namespace Go.Proofs.YtpbdcppaiafbgaaGreat
open Go Go.RowKit Go.Words Go.Mesh
def NoAl(x o:Value):Prop:=x=.agg #[.int .i64 0,.slice none 0 0]/\o=.slice none 0 0
def Zy2(w':World)(N:Int)(T:List T3)(l:List Int)(x o:Value):Prop :=
 ∃sv,x=.agg #[.int .i64 ((newO N T ((lpE l).map nm)).length:Nat),sv]/\Sl 3 RTri w' w'.heap.size sv (newX N T ((lpE l).map nm))/\Sl 1 RInt w' w'.heap.size o (newO N T ((lpE l).map nm))
def LoopCut(w':World)(N:Int)(T:List T3)(l:List Int)(x o:Value)(c:Int):Prop :=
 (¬Surf N T/\c=11/\NoAl x o)\/(Surf N T/\lpN N T l≠0/\c=lpN N T l/\NoAl x o)\/(Surf N T/\lpN N T l=0/\4096<(newO N T ((lpE l).map nm)).length/\c=7/\NoAl x o) \/
  (Surf N T/\lpN N T l=0/\(newO N T ((lpE l).map nm)).length<=4096/\c=0/\Zy2 w' N T l x o)
def LoopFar(w w':World)(N:Int)(T:List T3)(l:List Int)(x o:Value)(c:Int):Prop :=
 c=0->∀wz:World,(∀b,w.heap.size<=b->b<w'.heap.size->wz.heap[b]? = w'.heap[b]?)->Zy2 wz N T l x o
theorem Zow{w:World}{B:Nat}{sv lv:Value}{N:Int}{T:List T3}{l:List Int}(hB0:B<=w.heap.size)(hT:Sl 3 RTri w B sv T)(hN:I64 N)(hl:Sl 1 RInt w B lv l)(hok:∀x∈l,I64 x)(hll:l.length<=1000) :
  Calls Tryz.prog 87 #[.agg #[.int .i64 N,sv],lv] w fun e w'=>(∃x o c,e=.returned (.tuple #[x,o,.int .i64 c])/\LoopCut w' N T l x o c/\LoopFar w w' N T l x o c)/\Below w.heap.size w w':=by
 obtain⟨A,E,rfl,df⟩:=hT.form;have b4:=((zr w.heap.size w).alloc zl (.cells #[.int .i64 N,.slice A T.length E] 24)).alloc (by simp) (.cells #[.int .i64 0,.slice none 0 0] 24);have au:=(Bk.new w 24 [.int .i64 N,.slice A T.length E]).alloc (.cells #[.int .i64 0,.slice none 0 0] 24);have bt:=Bk.new' (n:=w.heap.size+1) (w:=w.alloc (.cells #[.int .i64 N,.slice A T.length E] 24)) 24 [.int .i64 0,.slice none 0 0] (by simp);have b2:=hT.below zaaq (b4.mono hB0);have bu:=hl.below zadq (b4.mono hB0);have dv:w.heap.size+2<=((w.alloc (.cells #[.int .i64 N,.slice A T.length E] 24)).alloc (.cells #[.int .i64 0,.slice none 0 0] 24)).heap.size:=by simp
 generalize cu:(w.alloc (.cells #[.int .i64 N,.slice A T.length E] 24)).alloc (.cells #[.int .i64 0,.slice none 0 0] 24)=w0 at *;have bw:=Zbs (.slice A T.length E) N T w0 (B:=B) (by omega) b2 hN;have c0:w0.cell? ⟨w.heap.size,0,none⟩=some (.int .i64 N):=au.cell 0;have c1:w0.cell? ⟨w.heap.size,1,none⟩=some (.slice A T.length E):=au.cell 1;have du:=fun w=>Zn6 w
 obtain⟨dr,dt,ca,cb,c2,cc,cf,cg⟩:=zz8 hT hl au bt b2 bu bw hok;clear hT hl au bt b2 bu bw hok;go_enter Tryz.func87,Tryz.ntmps87;go_wp2_with fail;clear cu;refine cf.out.mono ?_;rintro e w1 ⟨⟨pv,x,y,z,rfl,cs⟩,W⟩;have dw:=W.size;have bm:=b4.trans (W.mono (by omega));have G:=ca.out.below W (by omega);have J:=cb.out.below W (by omega);have a6:=c2.out.below zaaq (W.mono (by omega));have aa:=cc.out.below zadq (W.mono (by omega));obtain⟨V,b8⟩:∃V,w1.alloc (.cells #[.int .i64 x,.int .i64 y,.int .i64 z] 48)=V:=⟨_,rfl⟩;have X:Below w1.heap.size w1 V:=by rw[<- b8];exact(zr w1.heap.size w1).alloc zl _
 have dx:w1.heap.size+1<=V.heap.size:=by rw[<- b8];simp
 have am:=bm.trans (X.mono (by omega));have H:=G.below X G.lt;have q:=J.below X J.lt;have a2:=a6.below zaaq (X.mono (by omega));have Q:=aa.below zadq (X.mono (by omega));rcases cs with⟨hs,a4⟩|⟨bv,rfl⟩
 case inr =>
  have r0:V.cell? ⟨w.heap.size+1,0,none⟩=some (.int .i64 0):=q.cell 0;have r1:V.cell? ⟨w.heap.size+1,1,none⟩=some (.slice none 0 0):=q.cell 1;have rf:=q.frozen;have u:=(q.set 0 (.int .i64 0)).set 1 (.slice none 0 0);have k:=(am.setCell (p:=⟨w.heap.size+1,0,none⟩) (by show w.heap.size<=w.heap.size+1;omega) (.int .i64 0)).setCell (p:=⟨w.heap.size+1,1,none⟩) (by show w.heap.size<=w.heap.size+1;omega) (.slice none 0 0);obtain⟨bd,bg,Z,a0,c5,cd,ai,bj,ce,C,v⟩:=zz11 G J H q a6 aa a2 Q bv u k;clear G J H q a6 aa a2 Q bv u k;go_wp2_with fail;refine Zef rfl rfl C.out Tryz.underlying24 rfl (by kernel_rfl) rfl ?_;exact⟨⟨_,_,11,rfl,.inl ⟨ce.out,rfl,rfl,rfl⟩,fun h9=>absurd h9 (by decide)⟩,v.out⟩
 case inl =>
  obtain⟨t,rfl⟩:∃t,pv=.pointer (some t):=by
   obtain⟨g,_,_,_,_,_,rfl,_⟩:=a4;exact⟨_,rfl⟩
  have cp:=hs.nmax;have a5:=a4.below X zl;have bs:=Zzs (w:=V) (B:=w1.heap.size) (N:=N) (T:=T) (l:=l) (by omega) a5 cp (Q.keep zadq (zr _ _) (show B<=w1.heap.size by omega)) cg.out hll;have d0:V.cell? ⟨w.heap.size,0,none⟩=some (.int .i64 N):=H.cell 0;have d1:V.cell? ⟨w.heap.size,1,none⟩=some (.slice A T.length E):=H.cell 1;obtain⟨aj,d7,cn,bd,bg,Z,a0,c5,cd,ai,bj,c9⟩:=zz12 hs a4 a5 G J H q a6 aa a2 Q bs;clear hs a4 a5 G J H q a6 aa a2 Q bs;go_wp2_with fail;clear b8;refine c9.out.mono ?_;rintro e R ⟨⟨ev,c3,rfl,Y,aq,a9⟩,a7⟩;have dy:=a7.size;have an:=am.trans (a7.mono (by omega));have I:=Z.out.below a7 Z.out.lt;have s:=a0.out.below a7 a0.out.lt;have P:=ai.out.keep zaaq (a7.mono (show B<=V.heap.size by omega)) (show B<=R.heap.size by omega);have r0:R.cell? ⟨w.heap.size+1,0,none⟩=some (.int .i64 0):=s.cell 0;have r1:R.cell? ⟨w.heap.size+1,1,none⟩=some (.slice none 0 0):=s.cell 1;have rf:=s.frozen;have e0:R.cell? ⟨w.heap.size,0,none⟩=some (.int .i64 N):=I.cell 0;have e1:R.cell? ⟨w.heap.size,1,none⟩=some (.slice A T.length E):=I.cell 1;by_cases h0:c3=0
  case neg =>
   have co:(c3 != 0)=true:=bne_iff_ne.2 h0;have u:=(s.set 0 (.int .i64 0)).set 1 (.slice none 0 0);have k:=(an.setCell (p:=⟨w.heap.size+1,0,none⟩) (by show w.heap.size<=w.heap.size+1;omega) (.int .i64 0)).setCell (p:=⟨w.heap.size+1,1,none⟩) (by show w.heap.size<=w.heap.size+1;omega) (.slice none 0 0);have F:lpN N T l≠0:=by rw[<- Y];exact h0
   obtain⟨be,a1,b9,ay,c7,c8,C,v,O⟩:=zz9 I s P Y aq a9 u k F;clear I s P Y aq a9 u k F;go_wp2_with fail;refine Zef rfl rfl C.out Tryz.underlying24 rfl (by kernel_rfl) rfl ?_;exact⟨⟨_,_,c3,rfl,.inr (.inl ⟨aj.out,O.out,ay.out,rfl,rfl⟩),fun h9=>absurd h9 h0⟩,v.out⟩
  subst h0;have F:lpN N T l=0:=Y.symm;have a3:=a9 rfl;have af:=Zez l;rw[<- af]at a3;have ah:Sl 2 Zaz R R.heap.size ev (lpE l):=Sl.of_own a3 fun i a hi=>Zit (lpE l) i a hi
  have ag:∀e∈lpE l,ok2 e:=fun e he=>by
   obtain⟨hr,_,h3,_⟩:=Zl7 F;obtain⟨i,hi,rfl⟩:=zE he;rw[Zez]at hi;rw[Zlf hi];have m1:(i+1)%l.length<l.length:=Nat.mod_lt _ (by omega);have h1:=hr _ (zM hi);have h2:=hr _ (zM m1);rw[<- Zhi hi]at h1;rw[<- Zhi m1]at h2;exact⟨by unfold I64;simp only[];omega,by unfold I64;simp only[];omega⟩
  have bq:=Zrk (w:=R) (B:=R.heap.size) (N:=N) zl P hN ah ag (by omega);have co:((0:Int)!=0)=false:=rfl;have br:∀x,(x:Int)=0\/True:=fun _=>.inr trivial
  obtain⟨be,a1,b9,ay,c7,c8,d4,d5,d3,c6,d2,da⟩:=zz12 I s P Y aq a9 a3 ah ag bq af br;clear I s P Y aq a9 a3 ah ag bq af br;go_wp2_with fail;refine c6.out.mono ?_;rintro e j ⟨⟨r,c4,rfl,m,D⟩,b5⟩;have dz:=b5.size;have ao:=an.trans (b5.mono (by omega));have h:=a1.out.below b5 a1.out.lt;have q0:j.cell? ⟨w.heap.size+1,0,none⟩=some (.int .i64 0):=h.cell 0;have q1:j.cell? ⟨w.heap.size+1,1,none⟩=some (.slice none 0 0):=h.cell 1;have qf:=h.frozen;rcases loop_code aj.out F m.1 with⟨rfl,aw⟩|rfl
  ·have bx:=m.2.1 (by decide);unfold failV at bx;subst bx;have d:=h.alloc (.cells #[.int .i64 0,.slice none 0 0] 24);have p0:(j.alloc (.cells #[.int .i64 0,.slice none 0 0] 24)).cell? ⟨w.heap.size+1,0,none⟩=some (.int .i64 0):=d.cell 0;have p1:(j.alloc (.cells #[.int .i64 0,.slice none 0 0] 24)).cell? ⟨w.heap.size+1,1,none⟩=some (.slice none 0 0):=d.cell 1;have pf:=d.frozen;have u:=(d.set 0 (.int .i64 0)).set 1 (.slice none 0 0);have k:=((ao.alloc (by omega) (.cells #[.int .i64 0,.slice none 0 0] 24)).setCell (p:=⟨w.heap.size+1,0,none⟩) (by show w.heap.size<=w.heap.size+1;omega) (.int .i64 0)).setCell (p:=⟨w.heap.size+1,1,none⟩) (by show w.heap.size<=w.heap.size+1;omega) (.slice none 0 0);obtain⟨ba,bb,bh,bi,C,v,b0,O⟩:=zz8 m D h d u k aw F;clear m D h d u k aw F;go_wp2_with fail;refine Zef rfl rfl C.out Tryz.underlying24 rfl (by kernel_rfl) rfl ?_;exact⟨⟨_,_,7,rfl,.inr (.inr (.inl ⟨aj.out,O.out,b0.out,rfl,rfl,rfl⟩)),fun h9=>absurd h9 (by decide)⟩,v.out⟩
  ·have ap:=m.1.zero.2.2.2;obtain⟨xv,wv,pv,Es,rfl,hX,hO,bp,hP⟩:=m.2.2 rfl;obtain⟨U,f,rfl,bo⟩:=hX.form;have b3:(newX N T ((lpE l).map nm)).length=T.length:=by unfold newX;rw[Zbn]
   rw[b3]at hX bo D ⊢;obtain⟨M,hM⟩:∃M,(newO N T ((lpE l).map nm)).length=M:=⟨_,rfl⟩;rw[hM]at D ⊢;obtain⟨S,bz⟩:∃S,j.alloc (.cells #[.int .i64 (M:Nat),.slice U T.length f] 24)=S:=⟨_,rfl⟩;have ak:Below j.heap.size j S:=by rw[<- bz];exact(zr j.heap.size j).alloc zl _
   have e2:=ak.size;have bn:=ao.trans (ak.mono (by omega));have d:=h.below ak h.lt;have av:Bk S j.heap.size 24 [.int .i64 (M:Nat),.slice U T.length f]:=by rw[<- bz];exact Bk.new j _ _
   have t0:S.cell? ⟨j.heap.size,0,none⟩=some (.int .i64 (M:Nat)):=av.cell 0;have t1:S.cell? ⟨j.heap.size,1,none⟩=some (.slice U T.length f):=av.cell 1;have p0:S.cell? ⟨w.heap.size+1,0,none⟩=some (.int .i64 0):=d.cell 0;have p1:S.cell? ⟨w.heap.size+1,1,none⟩=some (.slice none 0 0):=d.cell 1;have pf:=d.frozen;have u:=(d.set 0 (.int .i64 (M:Nat))).set 1 (.slice U T.length f);have k:=(bn.setCell (p:=⟨w.heap.size+1,0,none⟩) (by show w.heap.size<=w.heap.size+1;omega) (.int .i64 (M:Nat))).setCell (p:=⟨w.heap.size+1,1,none⟩) (by show w.heap.size<=w.heap.size+1;omega) (.slice U T.length f);have L:∀b,R.heap.size<=b->b<j.heap.size->((S.setCell ⟨w.heap.size+1,0,none⟩ (.int .i64 (M:Nat))).setCell ⟨w.heap.size+1,1,none⟩ (.slice U T.length f)).heap[b]? = j.heap[b]?:=fun b h1 h2 =>
    (Below.heap_setCell _ ⟨w.heap.size+1,1,none⟩ _ b (by show b≠w.heap.size+1;omega)).trans ((Below.heap_setCell _ ⟨w.heap.size+1,0,none⟩ _ b (by show b≠w.heap.size+1;omega)).trans (ak.block b h2))
   have b7:j.heap.size<=((S.setCell ⟨w.heap.size+1,0,none⟩ (.int .i64 (M:Nat))).setCell ⟨w.heap.size+1,1,none⟩ (.slice U T.length f)).heap.size:=by simp;omega
   have K:∀wz:World,(∀b,R.heap.size<=b->b<j.heap.size->wz.heap[b]? = j.heap[b]?)->Zy2 wz N T l (.agg #[.int .i64 (M:Nat),.slice U T.length f]) wv:=fun wz h9=>by
    obtain⟨cx,e4,e3,dl,he,g1,g2,_,_⟩:=D rfl wz h9;injection he with he;have he:=congrArg Array.toList he;simp only[List.cons.injEq]at he;obtain⟨h1,h2,_⟩:=he;rw[hM]at h1;exact⟨cx,by rw[hM];exact h1,g1,by rw[h2];exact g2⟩
   generalize cv:(S.setCell ⟨w.heap.size+1,0,none⟩ (.int .i64 (M:Nat))).setCell ⟨w.heap.size+1,1,none⟩ (.slice U T.length f)=wF at *;have b6:=K wF L;have ar:LoopFar w wF N T l (.agg #[.int .i64 (M:Nat),.slice U T.length f]) wv 0:=fun _ wz h9=>K wz fun b h1 h2=>(h9 b (by omega) (by omega)).trans (L b h1 h2)
   obtain⟨ba,bb,bh,bi,db,C,v,O,ds,dp,dq,d8⟩:=zz12 m D h d av u k F hX hO hP bp;obtain⟨d9,dm,ck,cm,bc,az,ax,d6⟩:=zz8 b3 hM K L b6 ar ap b7;clear m D h d av u k F hX hO hP bp b3 hM K L b6 ar ap b7;go_wp2_with fail
   try rw[cv]
   refine Zef rfl rfl C.out Tryz.underlying24 rfl (by kernel_rfl) rfl ?_;exact⟨⟨_,_,0,rfl,.inr (.inr (.inr ⟨aj.out,O.out,ax.out,rfl,bc.out⟩)),az.out⟩,v.out⟩
