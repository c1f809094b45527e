/- Walks: ring.first. Walks: ring.Around's iterator. Walks. -/
import Derived.Test.YtpbdcppaiafbgaaGreatME
import Derived.Test.YtpbdcppaiafbgaaGreatMP
import Derived.RangeFuncNested
import Derived.RangeFuncBound
import Derived.RangeFuncLeaves
import Derived.Shelf.Abstract
import Derived.Shelf.RegionOpen
import Derived.OwnWalkIn
import Derived.TacticsInMore
import Derived.LoopNIn
import Derived.LoopIn
set_option maxRecDepth 100000
set_option maxHeartbeats 8000000
namespace Go.Proofs.YtpbdcppaiafbgaaGreat
open Go Go.RowKit Go.Words Go.Mesh
theorem Zga{w:World}{B:Nat}{tv:Value}{N:Int}{T:List T3}(h:Tab w B tv N T)(hs:Surf N T)(v:Int)(hv:0<=v/\v<N) :
  Calls Tryz.prog 81 #[tv,.int .i64 v] w fun e w'=>(∃b,Zcy T v=some b/\e=.returned (.tuple #[.int .i64 ((begins T b).1:Int),.bool (begins T b).2]))/\RowKit.Below w.heap.size w w':=by
 have a2:=h.le;have Y:=Zin h hs v;obtain⟨c,ac,a1⟩:=hs.used v hv.1 hv.2;obtain⟨b,L⟩:=zbbq (p:=fun d=>Mesh.vt T d==v) (n:=3*T.length) (k:=0) (c:=c) (by omega) (by omega) (by simp[a1]);have L:Zcy T v=some b:=L;have hr:Zpx T N v=(b:Int):=by unfold Zpx;rw[if_pos hv,L];rfl
 rw[hr]at Y;have X:b<3*T.length:=by
  obtain⟨_,h2,_⟩:=(zamq _ _ _ _).1 L;omega
 have a:=hs.back X;generalize hl:runF (bef T) b (3*T.length) b=l at *;have a7:T.length<=8192:=hs.tmax;obtain⟨Hh,a0,Z,R,q⟩:=zz5 h hs Y L a;clear h hs Y L a;go_enter Tryz.func81,Tryz.ntmps81;go_wp2_with fail;refine Z.out.mono ?_;rintro e w1 ⟨rfl,rfl⟩;go_wp2_with fail;go_loopw[7] (fun x wr=>∃(i:Nat) (hi:i<l.length),x=.int .i64 (l[i]:Int)/\Below w1.heap.size w1 wr) (fun x _=>l.length-l.idxOf (intOf x).toNat)
 case atStart=>exact⟨0,q.out.ne,by rw[q.out.head],zr _ _⟩
 case round =>
  obtain⟨i,hi,rfl,s⟩:=hrel;have a:=q.out;have hx:=a.lt _ (zM hi);have f:=before_calls (Hh.out.below s a2) a0.out l[i] hx;have C:i+1<l.length\/i+1=l.length:=by omega
  have u:i+1=l.length->l.getLastD b=l[i]:=by
   intro r;rw[List.getLastD_eq_getLast?,List.getLast?_eq_getElem?,show l.length-1=i from by omega,zG hi];rfl
  have m:begins T b=if bef T (l.getLastD b)=none then(l.getLastD b,true)else(b,false):=by unfold begins;rw[hl]
  have o:∀j (hj:j<l.length),l.idxOf l[j]=j:=fun j hj=>a.nodup.idxOf_getElem j hj
  have A:=o i hi;cases g:bef T l[i]with
  | none =>
   rw[g]at f;have I:i+1=l.length:=by
    rcases C with r|r
    ·have:=a.steps i r;rw[g]at this;cases this
    ·exact r
   have F:begins T b=(l[i],true):=by rw[m,u I,g];rfl
   generalize l[i]=y at *
   change Calls _ _ _ _ fun e w'=>e=.returned (.int .i64 (-1))/\_ at f
   obtain⟨t,q,O,J,K,G,H,M⟩:=zz8 f a u m o F A g;clear f a u m o F A g;go_wp2_with fail;refine t.out.mono ?_;rintro e w2 ⟨rfl,D⟩;have E:=zapq s D s.size;go_wp2;exact bodyPost_ret (results_tmp2 rfl _ _ _) rfl ⟨⟨b,R.out,by rw[G.out];rfl⟩,E⟩
  | some d =>
   rw[g]at f;by_cases S:d=b
   ·subst S;have I:i+1=l.length:=by
     rcases C with r|r
     ·have z:=a.steps i r;rw[g]at z;have W:l[i+1]=l[0]'(a.ne):=by rw[a.head];exact(zO z).symm
      have:=(List.getElem_inj a.nodup).1 W;omega
     ·exact r
    have F:begins T d=(d,false):=by rw[m,u I,g];rfl
    generalize l[i]=y at *
    change Calls _ _ _ _ fun e w'=>e=.returned (.int .i64 (d:Int))/\_ at f
    obtain⟨t,q,O,J,K,G,H,M⟩:=zz8 f a u m o F A g;clear f a u m o F A g;go_wp2_with fail;refine t.out.mono ?_;rintro e w2 ⟨rfl,D⟩;have E:=zapq s D s.size;go_wp2;exact bodyPost_ret (results_tmp2 rfl _ _ _) rfl ⟨⟨d,R.out,by rw[G.out];rfl⟩,E⟩
   ·have Q:∃r:i+1<l.length,d=l[i+1]:=by
     rcases C with r|r
     ·refine⟨r,?_⟩;have z:=a.steps i r;rw[g]at z;exact zO z
     ·exfalso;have z:=a.last;have W:l[l.length-1]'(by omega)=l[i]:=by congr 1;omega
      rw[W,g]at z;rcases z with z|z
      ·cases z
      ·exact S (zO z)
    obtain⟨r,hd⟩:=Q;have U:=o (i+1) r;have a6:(d:Int)≠(b:Int):=by omega
    have P:l.length-(i+1)<l.length-i:=by omega
    generalize l[i]=y at *
    change Calls _ _ _ _ fun e w'=>e=.returned (.int .i64 (d:Int))/\_ at f
    obtain⟨t,q,O,J,K,H,V,M⟩:=zz8 f a u m o A U g;clear f a u m o A U g;go_wp2_with fail;refine t.out.mono ?_;rintro e w2 ⟨rfl,D⟩;have E:=zapq s D s.size;go_wp2;exact⟨⟨i+1,r,rfl,E⟩,by simpa[H.out,V.out,intOf]using P⟩
end Go.Proofs.YtpbdcppaiafbgaaGreat
namespace Go.Mesh
abbrev Cor(T:List T3):={ c:Nat // c<3*T.length }
theorem cors_of{T:List T3}{l:List Nat}(h:∀c∈l,c<3*T.length):∃lc:List (Cor T),lc.map (·.1)=l :=
 ⟨l.pmap (fun c hc=>⟨c,hc⟩) h,by rw[List.map_pmap];simp⟩
end Go.Mesh
namespace Go.Proofs.YtpbdcppaiafbgaaGreat
open Go Go.RowKit Go.Words Go.Mesh
attribute [local go_sem] Oper.semAt_some
theorem Zh6{w w':World}(h:Below w.heap.size w w'):w.grownBy w' none:=⟨h.os,h.tape,h.output,h.size,fun k hk _=>h.block k hk⟩
theorem Zrj{β:Type}{B:Nat}{J:β->World->Prop}(h:AbidesFrom B J){s:β}{w w':World}(hs:J s w)(hb:Below w.heap.size w w'):J s w':=h s w w' none hs (Zh6 hb) (fun r e=>by cases e)
def Zsh(n₀ Bt:Nat)(W W':World):Prop:=Below n₀ W W'/\W'.cell? ⟨Bt,0,none⟩=W.cell? ⟨Bt,0,none⟩
theorem Zu1{n₀ Bt:Nat}{A B C:World}(h:Zsh n₀ Bt A B)(k:Zsh n₀ Bt B C):Zsh n₀ Bt A C:=⟨h.1.trans k.1,k.2.trans h.2⟩
theorem Zu0{n₀ Bt:Nat}{w:World}(hn:n₀<=w.heap.size)(hBt:Bt<w.heap.size)(W:World)(l:Nat)(o o':Obj)(hl:w.heap.size<=l)(h:W.heap[l]? = some o)(h1:o.isCells=false)(h2:o.isWalk=false):Zsh n₀ Bt W (W.putObj l o') :=
 ⟨belowK_b hn W l o o' hl h h1 h2,by unfold World.cell?;rw[World.putObj_heap_other (by simp only;omega)]⟩
theorem around1_in(n:Nat)(hn:1<=n)(l Bt Bv n₀ B:Nat)(tv:Value)(N:Int)(T:List T3)(v:Int)(hs:Surf N T)(hB:B<=n₀)(J Jx:List (Cor T)->World->Prop)
  (hY:∀pre x W,J pre W->pre.length<3*T.length+1->YieldAt Fence.wide (n-1) Tryz.prog l #[.int .i64 (x.1:Int)] W fun e W' =>
   (e=.returned (.bool true)/\J (pre++[x]) W'/\Zsh n₀ Bt W W')\/(e=.returned (.bool false)/\Jx (pre++[x]) W'))
  (W:World) (hBt:Bt<W.heap.size) (hJ:AbidesFrom W.heap.size J) (ht:W.cell? ⟨Bt,0,none⟩=some tv) (hv:W.cell? ⟨Bv,0,none⟩=some (.int .i64 v)) (htab:Tab W B tv N T) (h0:J [] W) :
  CallsIn Fence.wide n Tryz.prog 124 #[.func (.yield l) #[] #[],.pointer (some ⟨Bt,0,none⟩),.pointer (some ⟨Bv,0,none⟩)] W fun e W'=>(∃v,e=.returned v) /\
   ((∃ys:List (Cor T),ys.map (·.1)=Zad T N v/\J ys W')\/(∃pre:List (Cor T),pre.map (·.1) <+: Zad T N v/\Jx pre W')):=by
 have A:=Zwe htab hs v;refine callsIn_of_wp Tryz.func124 rfl trivial ?_ rfl;simp only[Tryz.ntmps124,List.size_toArray,List.length_cons,List.length_nil,Nat.reduceAdd,Nat.reduceSub,Array.replicate_succ,Array.replicate_zero,List.push_toArray,List.append_toArray,List.nil_append,List.cons_append];obtain⟨a1,rfl⟩:∃t,tv=.pointer t:=by
  obtain⟨g,_,_,_,_,_,rfl,_⟩:=htab;exact⟨_,rfl⟩
 obtain⟨Z,K,au,a7⟩:=zz4 A htab hY hJ;clear A htab hY hJ;by_cases z:0<=v/\v<N
 case neg =>
  have hr:Zad T N v=[]:=by unfold Zad;rw[if_neg z]
  have A:=Z.out;rw[zN z]at A;gi_wp2_with fail;refine⟨trivial,(callsIn_wide.2 A).mono ?_⟩;rintro e O ⟨rfl,rfl⟩;gi_wp2;refine bodyPost_ret (results_none rfl _ _ _) rfl ?_;exact⟨⟨_,rfl⟩,.inl ⟨[],by rw[hr];rfl,h0⟩⟩
 case pos =>
  have A:=Z.out;rw[zY z]at A;obtain⟨b,hb⟩:=hs.corner_some z.1 z.2;have I:=Zga K.out hs v z;obtain⟨c,-,-⟩:=hs.ring z.1 z.2 hb;have hr:Zad T N v=runF (aft T) (begins T b).1 (3*T.length) (begins T b).1:=by unfold Zad;rw[if_pos z,hb]
  rw[<- hr]at c;have ba:=hs.tmax;have I:Calls Tryz.prog 81 #[.pointer a1,.int .i64 v] W fun e O=>e=.returned (.tuple #[.int .i64 ((begins T b).1:Int),.bool (begins T b).2])/\Below W.heap.size W O:=by
   refine I.mono ?_;rintro e O ⟨⟨b',aa,he⟩,w⟩;rw[hb]at aa;obtain rfl:=zO aa;exact⟨he,w⟩
  clear hr;generalize Zad T N v=L at *;generalize (begins T b).1=x0 at *;generalize (begins T b).2=bo at *;obtain⟨a,b1⟩:=cors_of c.lt;subst b1;have b2:=K.out.le;obtain⟨V,h⟩:=zz2 I c;clear I c;gi_wp2_with fail;refine⟨trivial,(callsIn_wide.2 A).mono ?_⟩;clear A;rintro e O ⟨rfl,rfl⟩;gi_wp2_with fail;refine⟨trivial,(callsIn_wide.2 V.out).mono ?_⟩;rintro e w1 ⟨rfl,R⟩;have b3:=(R.cell (p:=⟨Bt,0,none⟩) (by show Bt<_;omega)).trans ht;have S:=K.out.below R b2;have a9:=Zrj a7.out h0 R;obtain⟨X,ah⟩:=zz2 S a9;clear S a9;gi_wp2_with fail;gi_loopw [6] (fun x wr=>∃(i:Nat) (hi:i<a.length),x=.int .i64 ((a[i]).1:Int)/\J (a.take i) wr/\Tab wr B (.pointer a1) N T/\wr.cell? ⟨Bt,0,none⟩=some (.pointer a1)/\O.heap.size<=wr.heap.size) (fun x _=>a.length-(a.map (·.1)).idxOf (intOf x).toNat)
  case atStart =>
   have h0:=h.out.ne;have h2:=h.out.head;simp only[List.getElem_map]at h2;exact⟨0,by simpa using h0,by rw[h2],ah.out,X.out,b3,R.size⟩
  case round =>
   obtain⟨i,hi,rfl,a0,U,b5,bg⟩:=hrel;obtain⟨fn,be,av,b8,hy,hR⟩:=au.out (a.take i) a[i] wr a0 (by have:=a[i].2;have:=Zfw _ _ h.out.nodup h.out.lt;simp only[zL]at this;rw[List.length_take];omega);obtain⟨ar,b6,Y⟩:=zz3 hR a0 U;clear hR a0 U;gi_wp2_with fail;refine ar.out.mono ?_;rintro e W2 (⟨rfl,ax,ad,b0⟩|⟨rfl,am⟩)
   case inr =>
    gi_wp2_with fail;go_end0;refine⟨⟨_,rfl⟩,.inr ⟨a.take i++[a[i]],?_,am⟩⟩;rw[<- zT hi,List.map_take];exact List.take_prefix _ _
   case inl =>
    have k:=Y.out.below ad hB;have y:=Ztj k hs a[i].1 a[i].2;have ap:=k.le;have b4:=b0.trans b5;have bc:=ad.size;have q:∀H,Below W2.heap.size W2 H->J (a.take (i+1)) H:=by
     intro H s;rw[zT hi];exact a7.out _ _ _ none ax (Zh6 s) (fun r e=>by cases e)
    have c:=h.out;have bb:(a.map (·.1)).length=a.length:=zL _;have f:∀j (hj:j<a.length),(a.map (·.1))[j]'(by omega)=a[j].1:=fun j hj=>List.getElem_map _
    have o:∀j (hj:j<a.length),(a.map (·.1)).idxOf a[j].1=j:=fun j hj=>by rw[<- f j hj];exact c.nodup.idxOf_getElem j (by omega)
    have ae:=o i hi;have ag:a[0].1=x0:=by rw[<- f 0 (by omega)];exact c.head
    have m:i+1=a.length->∀H,Below W2.heap.size W2 H->J a H:=by
     intro w H s;have:=q H s
     rwa [List.take_of_length_le (by omega)]at this
    cases C:aft T a[i].1 with
    | none =>
     rw[C]at y;have M:i+1=a.length:=by
      rcases zK (i+1) a.length with w|w
      ·have:=c.steps i (by omega);rw[f i hi,C]at this;cases this
      ·omega
     have m:=m M
     change Calls _ _ _ _ fun e O=>e=.returned (.int .i64 (-1))/\_ at y
     obtain⟨F,D,G,h,P,Q,E⟩:=zz7 y m k c f o q;clear y m k c f o q;gi_wp2_with fail;refine⟨trivial,(callsIn_wide.2 F.out).mono ?_⟩;rintro e H ⟨rfl,s⟩;gi_wp2_with fail;refine bodyPost_ret (results_none rfl _ _ _) rfl ?_;exact⟨⟨_,rfl⟩,.inl ⟨a,rfl,D.out _ s⟩⟩
    | some d =>
     rw[C]at y
     change Calls _ _ _ _ fun e O=>e=.returned (.int .i64 (d:Int))/\_ at y
     by_cases ac:d=x0
     ·subst ac;have M:i+1=a.length:=by
       rcases zK (i+1) a.length with w|w
       ·have u:=c.steps i (by omega);rw[f i hi,C,f (i+1) w]at u;have h7:=o (i+1) w;rw[<- zO u,<- ag,o 0 (by omega)]at h7;omega
       ·omega
      have m:=m M;obtain⟨F,D,G,h,P,Q,E⟩:=zz7 y m k c f o q;clear y m k c f o q;gi_wp2_with fail;refine⟨trivial,(callsIn_wide.2 F.out).mono ?_⟩;rintro e H ⟨rfl,s⟩;gi_wp2_with fail;refine bodyPost_ret (results_none rfl _ _ _) rfl ?_;exact⟨⟨_,rfl⟩,.inl ⟨a,rfl,D.out _ s⟩⟩
     ·have a5:∃w:i+1<a.length,d=a[i+1].1:=by
       rcases zK (i+1) a.length with w|w
       ·refine⟨w,?_⟩;have u:=c.steps i (by omega);rw[f i hi,C,f (i+1) w]at u;exact zO u
       ·exfalso;have u:=c.last;have h7:(a.map (·.1))[(a.map (·.1)).length-1]'(by omega)=a[i].1:=by
         rw[<- f i hi]
         congr 1
         omega
        rw[h7,C]at u;rcases u with u|u
        ·cases u
        ·exact ac (zO u)
      obtain⟨w,hd⟩:=a5;have af:=o (i+1) w;have ao:(d:Int)≠(x0:Int):=by omega
      have a4:a.length-(i+1)<a.length-i:=by omega
      clear ag;obtain⟨F,D,G,h,P,Q,E,ai,aj,b7,V,a8⟩:=zz12 y m k c f o q ae af C I hd;clear y m k c f o q ae af C I hd;gi_wp2_with fail;refine⟨trivial,(callsIn_wide.2 F.out).mono ?_⟩;rintro e H ⟨rfl,s⟩;have bd:=s.size;gi_wp2_with fail
      ·rename_i u;exfalso;rcases u with u|u
       ·omega
       ·exact ao (eq_of_beq u)
      refine⟨⟨i+1,w,by rw[a8.out],E.out _ s,G.out.below s ap,(s.cell (p:=⟨Bt,0,none⟩) (by show Bt<_;omega)).trans b4,by omega⟩,?_⟩;have e:a.length-(a.map (·.1)).idxOf d<a.length-(a.map (·.1)).idxOf a[i].1:=by rw[ai.out,a8.out,aj.out];exact a4
      exact e
theorem around_stops(n:Nat)(hn:1<=n)(Bt Bv n₀ B:Nat)(tv:Value)(N:Int)(T:List T3)(v:Int)(hs:Surf N T)(hB:B<=n₀)(w:World)(hBt:Bt<w.heap.size)(hBv:Bv<w.heap.size)(hn₀:n₀<=w.heap.size)
  (ht:w.cell? ⟨Bt,0,none⟩=some tv) (hv:w.cell? ⟨Bv,0,none⟩=some (.int .i64 v)) (htab:Tab w B tv N T) :
  SeqStopsK Fence.wide n Tryz.prog 124 #[.pointer (some ⟨Bt,0,none⟩),.pointer (some ⟨Bv,0,none⟩)] (fun x:Cor T=>#[Value.int .i64 (x.1:Int)]) (Zsh n₀ Bt) (fun ys=>ys.map (·.1)=Zad T N v) (fun pre=>pre.map (·.1) <+: Zad T N v) (3*T.length+1) w:=fun l J Jx W hW hJ _ hY h0 =>
 around1_in n hn l Bt Bv n₀ B tv N T v hs hB J Jx hY W (Nat.lt_of_lt_of_le hBt hW.size) hJ ((hW.cell (p:=⟨Bt,0,none⟩) hBt).trans ht) ((hW.cell (p:=⟨Bv,0,none⟩) hBv).trans hv) (htab.below (hW.mono hn₀) hB) h0
theorem Zik(tv:Value)(v:Int)(w:World)(ha:tv.oneCell'=true):Calls Tryz.prog 82 #[tv,.int .i64 v] w fun e w' =>
  e=.returned (.func (.func 124) #[] #[.pointer (some ⟨w.heap.size,0,none⟩),.pointer (some ⟨w.heap.size+1,0,none⟩)]) /\
  w'=(w.alloc (.cells #[tv] 46)).alloc (.cells #[.int .i64 v] 3):=by
 go_enter Tryz.func82,Tryz.ntmps82;go_wp2;go_ret;exact⟨rfl,rfl⟩
theorem Zsj(n:Nat)(hn:1<=n)(Bt Bv n₀:Nat)(v:Int)(w:World)(hBt:Bt<w.heap.size)(hBv:Bv<w.heap.size)
  (a:w.cell? ⟨Bt,0,none⟩=some (.pointer none)) (c:w.cell? ⟨Bv,0,none⟩=some (.int .i64 v)) :
  SeqStopsK Fence.wide n Tryz.prog 124 #[.pointer (some ⟨Bt,0,none⟩),.pointer (some ⟨Bv,0,none⟩)] (fun x:Cor []=>#[Value.int .i64 (x.1:Int)]) (Zsh n₀ Bt) (fun ys=>ys=[]) (fun _=>False) 1 w:=fun l J Jx W hW _ _ _ h0=>by
 have a:=(hW.cell (p:=⟨Bt,0,none⟩) hBt).trans a;have c:=(hW.cell (p:=⟨Bv,0,none⟩) hBv).trans c;refine callsIn_of_wp Tryz.func124 rfl trivial ?_ rfl;simp only[Tryz.ntmps124,List.size_toArray,List.length_cons,List.length_nil,Nat.reduceAdd,Nat.reduceSub,Array.replicate_succ,Array.replicate_zero,List.push_toArray,List.append_toArray,List.nil_append,List.cons_append];have b:=there_nil v W;gi_wp2_with fail;refine⟨trivial,(callsIn_wide.2 b).mono ?_⟩;rintro e d ⟨rfl,rfl⟩;gi_wp2;refine bodyPost_ret (results_none rfl _ _ _) rfl ?_;exact⟨⟨_,rfl⟩,.inl ⟨[],rfl,h0⟩⟩
end Go.Proofs.YtpbdcppaiafbgaaGreat
namespace Go.Mesh
end Go.Mesh
namespace Go.Proofs.YtpbdcppaiafbgaaGreat
open Go Go.RowKit Go.Words Go.Mesh
attribute [local go_sem] Oper.semAt_some
def TabN(w:World)(B:Nat)(tv:Value)(N:Int)(T:List T3):Prop:=Tab w B tv N T\/(tv=.pointer none/\N=0/\T=[]/\B<=w.heap.size)
theorem TabN.below{w w':World}{B B':Nat}{tv:Value}{N:Int}{T:List T3}(h:TabN w B tv N T)(hb:Below B' w w')(hB:B<=B'):TabN w' B tv N T:=by
 rcases h with h|⟨a,b,c,d⟩
 ·exact .inl (h.below hb hB)
 ·exact .inr ⟨a,b,c,Nat.le_trans d hb.size⟩
theorem TabN.le{w:World}{B:Nat}{tv:Value}{N:Int}{T:List T3}(h:TabN w B tv N T):B<=w.heap.size:=by
 rcases h with h|⟨_,_,_,a⟩
 ·exact h.le
 ·exact a
theorem TabN.form{w:World}{B:Nat}{tv:Value}{N:Int}{T:List T3}(h:TabN w B tv N T):∃t,tv=.pointer t:=by
 rcases h with⟨g,_,_,_,_,_,rfl,_⟩|⟨a,_⟩
 ·exact⟨_,rfl⟩
 ·exact⟨_,a⟩
theorem TabN.tab{w:World}{B:Nat}{tv:Value}{N:Int}{T:List T3}(h:TabN w B tv N T)(hT:T≠[]):Tab w B tv N T:=by
 rcases h with h|⟨_,_,a,_⟩
 ·exact h
 ·exact absurd a hT
theorem Znf(v:Int):Zad [] 0 v=[]:=by unfold Zad;rw[if_neg (by omega)]
theorem Zhb(n:Nat)(hn:1<=n)(Bt Bv n₀ B:Nat)(tv:Value)(N:Int)(T:List T3)(v:Int)(hs:Surf N T)(hB:B<=n₀)(w:World)(hBt:Bt<w.heap.size)(hBv:Bv<w.heap.size)(hn₀:n₀<=w.heap.size)
  (ht:w.cell? ⟨Bt,0,none⟩=some tv) (hv:w.cell? ⟨Bv,0,none⟩=some (.int .i64 v)) (a:TabN w B tv N T) :
  SeqStopsK Fence.wide n Tryz.prog 124 #[.pointer (some ⟨Bt,0,none⟩),.pointer (some ⟨Bv,0,none⟩)] (fun x:Cor T=>#[Value.int .i64 (x.1:Int)]) (Zsh n₀ Bt) (fun ys=>ys.map (·.1)=Zad T N v) (fun b=>b.map (·.1) <+: Zad T N v) (3*T.length+1) w:=by
 rcases a with a|⟨rfl,rfl,rfl,_⟩
 ·exact around_stops n hn Bt Bv n₀ B tv N T v hs hB w hBt hBv hn₀ ht hv a
 ·intro l J d W k g h m f;refine(Zsj n hn Bt Bv n₀ v w hBt hBv ht hv l J d W k g h m f).mono ?_;rintro e o ⟨i,j⟩;refine⟨i,?_⟩;rcases j with⟨p,rfl,c⟩|⟨b,c,_⟩
  ·exact .inl ⟨[],by rw[Znf];rfl,c⟩
  ·exact c.elim
theorem Za9{w:World}{B:Nat}{tv:Value}{N:Int}{T:List T3}(h:TabN w B tv N T)(hs:Surf N T)(v:Int) :
  Calls Tryz.prog 28 #[tv,.int .i64 v] w fun e i=>e=.returned (.bool (Zae T N v))/\Below w.heap.size w i:=by
 rcases h with h|⟨rfl,rfl,rfl,_⟩
 ·have c:=Zwe h hs v;by_cases a:0<=v/\v<N
  ·rw[zY a]at c;have f:=Zga h hs v a;obtain⟨b,g⟩:=hs.corner_some a.1 a.2;have s:Zae T N v=!(begins T b).2:=by unfold Zae;rw[if_pos a,g]
   rw[s];have f:Calls Tryz.prog 81 #[tv,.int .i64 v] w fun e i=>e=.returned (.tuple #[.int .i64 ((begins T b).1:Int),.bool (begins T b).2])/\Below w.heap.size w i:=by
    refine f.mono ?_;rintro e i ⟨⟨u,k,r⟩,q⟩;rw[g]at k;obtain rfl:=zO k;exact⟨r,q⟩
   generalize (begins T b).1=y at *;generalize (begins T b).2=x at *;obtain⟨o,d,l,j,t⟩:=zz5 h c f hs g;clear h c f hs g;go_enter Tryz.func28,Tryz.ntmps28;go_wp2_with fail;refine d.out.mono ?_;rintro e m ⟨rfl,rfl⟩;go_wp2_with fail;refine l.out.mono ?_;rintro e m ⟨rfl,n⟩;go_wp2_with fail;go_ret;exact⟨rfl,n⟩
  ·rw[zN a]at c;rw[(hs.ring_none a).2];obtain⟨o,d,j,p⟩:=zz4 h c hs a;clear h c hs a;go_enter Tryz.func28,Tryz.ntmps28;go_wp2_with fail;refine d.out.mono ?_;rintro e m ⟨rfl,rfl⟩;go_wp2_with fail;go_ret;exact⟨rfl,zr _ _⟩
 ·have c:=there_nil v w;rw[show Zae [] 0 v=false from by unfold Zae;rw[if_neg (by omega)]];obtain⟨d,j⟩:=zz2 c hs;clear c hs;go_enter Tryz.func28,Tryz.ntmps28;go_wp2_with fail;refine d.out.mono ?_;rintro e m ⟨rfl,rfl⟩;go_wp2_with fail;go_ret;exact⟨rfl,zr _ _⟩
theorem Zjt{o:Option Nat}:(decide (0<=oi o))=o.isSome:=by cases o<;>simp[oi]
theorem Zjs{w:World}{B:Nat}{tv:Value}{N:Int}{T:List T3}(h:TabN w B tv N T)(a b:Int)(ha:I64 a)(hb:I64 b) :
  Calls Tryz.prog 154 #[tv,.int .i64 a,.int .i64 b] w fun e w'=>e=.returned (.bool (near T a b))/\Below w.heap.size w w':=by
 rcases h with h|⟨rfl,rfl,rfl,_⟩
 ·have u:=h.le;obtain⟨g,rfl⟩:∃g,tv=.pointer (some ⟨g,0,none⟩):=by
   obtain⟨g,_,_,_,_,_,rfl,_⟩:=h;exact⟨_,rfl⟩
  have n:=fun wz (hz:Tab wz B (.pointer (some ⟨g,0,none⟩)) N T)=>Zce hz a b ha hb
  have d:=fun wz (hz:Tab wz B (.pointer (some ⟨g,0,none⟩)) N T)=>Zce hz b a hb ha
  have j:near T a b=((facing T (a,b)).isSome || (facing T (b,a)).isSome):=rfl;rw[j];clear j;generalize facing T (a,b)=z at *;generalize facing T (b,a)=l at *;cases z with
  | some c =>
   have v:0<=oi (some c):=by simp[oi]
   rw[show((some c).isSome || l.isSome)=true from rfl];generalize oi (some c)=x at *;obtain⟨m,k,f,r,s⟩:=zz5 h n d ha hb;clear h n d ha hb;go_enter Tryz.func154,Tryz.ntmps154;go_wp2_with fail;refine(k.out _ m.out).mono ?_;rintro e A ⟨rfl,i⟩;go_wp2_with fail;go_ret;exact⟨rfl,i⟩
  | none =>
   have v:oi none<0:=by simp[oi]
   rw[show((none:Option Nat).isSome || l.isSome)=l.isSome from rfl];generalize oi none=x at *;have p:=Zjt (o:=l);generalize oi l=y at *;obtain⟨m,k,f,r,s,q⟩:=zz6 h n d ha hb p;clear h n d ha hb p;go_enter Tryz.func154,Tryz.ntmps154;go_wp2_with fail;refine(k.out _ m.out).mono ?_;rintro e A ⟨rfl,i⟩;have d:=f.out _ (m.out.below i u);have f:=zz d;clear d;go_wp2_with fail;refine f.out.mono ?_;rintro e C ⟨rfl,t⟩;go_wp2_with fail;go_ret;exact⟨zaxq q.out,zapq i t i.size⟩
 ·rw[show near [] a b=false from rfl];go_enter Tryz.func154,Tryz.ntmps154;go_wp2_with fail;go_ret;exact⟨rfl,zr _ _⟩
open Go Go.RowKit Go.Words Go.Mesh
attribute [local go_sem] Oper.semAt_some
theorem Zg6:(Tryz.prog.info? 3).map (fun i=>(i.zero,i.size,i.bytes))=some (some (.int .i64 0),1,8):=by kernel_rfl
def nvals(l:List Nat):List Value:=l.map fun(x:Nat)=>.int .i64 (x:Int)
theorem zawq{w:World}{n:Nat}(hn:n=w.heap.size)(t:TypeId)(v:Value):Boxed (w.alloc (.cells #[v] t)) n t v:=by subst hn;exact Boxed.new w t v
theorem Zci{W w1:World}{r B:Nat}{t e:TypeId}{size:Nat}{v v':Value}{k m:Nat}{xs ys:List Value}{tmp:Obj}
  (hv:Boxed W B t v) (hBr:B<r) (hrow:W.ownsRow r e size v k xs) (hrW:r<=W.heap.size) (hown':w1.ownsRow r e size v' m ys) (hgrow:(W.alloc tmp).grownBy w1 v.ownBlock) :
  Boxed w1 B t v/\Boxed (w1.setCell ⟨B,0,none⟩ v') B t v'/\(w1.setCell ⟨B,0,none⟩ v').ownsRow r e size v' m ys/\KeepsOthers W (w1.setCell ⟨B,0,none⟩ v')/\(∀n₀,n₀<=B->Below n₀ W (w1.setCell ⟨B,0,none⟩ v')) /\
  (∀B' t' u,B'<r->B'≠B->Boxed W B' t' u->Boxed (w1.setCell ⟨B,0,none⟩ v') B' t' u):=by
 have a:∀B',B'<r->some B'≠v.ownBlock:=fun B' h e=>by have:=(hrow.lt B' e.symm).1;omega
 have c:∀B',B'<r->some B'≠v'.ownBlock:=fun B' h e=>by have:=(hown'.lt B' e.symm).1;omega
 have b:Boxed w1 B t v:=(hv.alloc tmp).kept hgrow (a B hBr);refine⟨b,b.set v',hown'.kept (grownBy_setCell' w1 B v') (.inr (c B hBr).symm),?_,fun n₀ hn=>?_,fun B' t' u h1 h2 h3=>?_⟩
 ·refine((KeepsOthers.alloc W tmp).trans (KeepsOthers.of_grownBy hgrow fun j o ej hj=>?_)).trans (KeepsOthers.setCell _ _ _);rcases(hrow.alloc tmp).2 with⟨rfl,_⟩|⟨g,f,i,rfl,_,d,_⟩
  ·simp[Value.ownBlock]at ej
  ·obtain rfl:g=j:=by simpa[Value.ownBlock]using ej
   rw[d]at hj;cases hj;rfl
 ·refine(((zr n₀ W).alloc (by omega) tmp).grown hgrow (by simp;omega) fun j ej=>?_).setCell (p:=⟨B,0,none⟩) hn v';have:=(hrow.lt j ej).1;omega
 ·exact((h3.alloc tmp).kept hgrow (a B' h1)).other h2 v'
end Go.Proofs.YtpbdcppaiafbgaaGreat
namespace Go.Mesh
end Go.Mesh
namespace Go.Proofs.YtpbdcppaiafbgaaGreat
open Go Go.RowKit Go.Words Go.Mesh
attribute [local go_sem] Oper.semAt_some
def ivals(l:List Int):List Value:=l.map fun(x:Int)=>.int .i64 x
