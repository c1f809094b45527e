/- Walks: edges told apart, and sorted (soup.Edges). Words: a. -/
import Derived.Sort.MapsRangeIn
import Derived.Sort.KeysCollected
import Derived.RangeFuncStops
import Derived.Shelf.SlSortCmp.NoneTotal
import Derived.Test.YtpbdcppaiafbgaaGreatTS
set_option maxRecDepth 100000
set_option maxHeartbeats 8000000
namespace Go.Mesh
def cmpE(x y:Int×Int):Int:=if cmpI x.1 y.1≠0 then cmpI x.1 y.1 else cmpI x.2 y.2
def ltE(x y:Int×Int):Prop:=x.1<y.1\/(x.1=y.1/\x.2<y.2)
instance (x y : Int×Int) : Decidable (ltE x y) := inferInstanceAs (Decidable (_ \/ _))
theorem cmpE_neg(x y:Int×Int):cmpE x y<0↔ltE x y:=by
 have a:=Zsr x.1 y.1;have b:=Zsr x.2 y.2;have c:=cmpI_zero x.1 y.1;unfold cmpE ltE
 split<;>omega
def Zbl(l:List (Int×Int)):List Value:=l.flatMap fun t=>[.int .i64 t.1,.int .i64 t.2]
theorem Zit(l:List (Int×Int)):∀(i:Nat) (b:Int×Int),l[i]? = some b->((Zbl l).drop (i*2)).take 2=[.int .i64 b.1,.int .i64 b.2]:=by
 induction l with
 | nil=>intro i b h;simp at h
 | cons x l ih =>
  intro i b h;cases i with
  | zero =>
   have:x=b:=by simpa using h
   subst this;simp[Zbl]
  | succ i =>
   have a:=ih i b (by simpa using h);rw[show(i+1)*2=i*2+1+1 by omega];simp only[Zbl,List.flatMap_cons,List.cons_append,List.nil_append,List.drop_succ_cons];exact a
theorem Zgs(l:List (Int×Int)):(Zbl l).length=l.length*2:=by
 induction l with
 | nil=>rfl
 | cons x l ih=>unfold Zbl at *;rw[List.flatMap_cons,zA,ih];simp;omega
theorem Zmx(l:List (Int×Int))(e:Int×Int):Zbl (l++[e])=Zbl l++[.int .i64 e.1,.int .i64 e.2]:=by unfold Zbl;rw[List.flatMap_append];simp
end Go.Mesh
namespace Go.Proofs.YtpbdcppaiafbgaaGreat
open Go Go.RowKit Go.Words Go.Mesh Go.Shelf Go.Sort Go.Lib
theorem order2_calls(x y:Int×Int)(W:World):Calls Tryz.prog 110 #[enc2 x,enc2 y] W fun e w'=>e=.returned (.int .i64 (cmpE x y))/\∃q os',w'=grow (W.drewN q) os':=by
 obtain⟨b,i⟩:=x;obtain⟨f,j⟩:=y;have m:cmpE (b,i) (f,j)=if cmpI b f≠0 then cmpI b f else cmpI i j:=rfl
 have z:=fun w=>Zhf b f w
 have A:=fun w=>Zhf i j w
 rw[m];generalize cmpI b f=c at *;generalize cmpI i j=d at *;have C:=fun g w h0 h1=>or_calls g c d w h0 h1
 generalize (if c≠0 then c else d)=r at *;show Calls Tryz.prog 110 #[.agg #[.int .i64 b,.int .i64 i],.agg #[.int .i64 f,.int .i64 j]] W _;obtain⟨t,u,v,F⟩:=zz4 z A C m;clear z A C m;go_enter Tryz.func110,Tryz.ntmps110;go_wp2_with(refine Canon.wp_region_plan [6,8] (· < W.heap.size+2) [0,1,2,3,5,6,7,8] [[[4],[9],[10],[11],[12]]] mixed (by kernel_rfl) (zF ⟨?_,fun _ h=>by cases h⟩));refine Canon.seg_begin ?_;simp only[zm,zg];go_wp2_with fail;refine(t.out _).mono ?_;rintro e E ⟨rfl,rfl⟩;have D:Canon.KeepU (· < W.heap.size+2) ((W.alloc (.cells #[.int .i64 b,.int .i64 i] 39)).alloc (.cells #[.int .i64 f,.int .i64 j] 39)).drew ((W.alloc (.cells #[.int .i64 b,.int .i64 i] 39)).alloc (.cells #[.int .i64 f,.int .i64 j] 39)).drew:=zacq (zr _ _);have s:Canon.KeepU (· < W.heap.size+2) ((W.alloc (.cells #[.int .i64 b,.int .i64 i] 39)).alloc (.cells #[.int .i64 f,.int .i64 j] 39)).drew (((W.alloc (.cells #[.int .i64 b,.int .i64 i] 39)).alloc (.cells #[.int .i64 f,.int .i64 j] 39)).alloc (.cells #[.int .i64 c,.int .i64 d] 3)).drew:=zacq (RowKit.Below.alloc (B:=W.heap.size+2) (a:=((W.alloc (.cells #[.int .i64 b,.int .i64 i] 39)).alloc (.cells #[.int .i64 f,.int .i64 j] 39)).drew) (zr _ _) (by simp) (.cells #[.int .i64 c,.int .i64 d] 3));have o:=(Bk.new' (n:=W.heap.size+2) (w:=(W.alloc (.cells #[.int .i64 b,.int .i64 i] 39)).alloc (.cells #[.int .i64 f,.int .i64 j] 39)) 3 [.int .i64 c,.int .i64 d] (by simp)).drew;obtain⟨p,k,l⟩:=zz3 D s o;clear D s o;go_wp2_with fail;refine Canon.seg_end p.out (Canon.seg_begin ?_);simp only[zm,zg];go_wp2_with fail;refine(u.out _).mono ?_;rintro e E ⟨rfl,rfl⟩;go_wp2_with fail;refine Canon.seg_end p.out (Canon.seg_begin ?_);simp only[zm,zg];go_wp2_with fail;refine Canon.seg_end k.out (Canon.seg_begin ?_);simp only[zm,zg];go_wp2_with fail;refine(v.out _ _ ?_ ?_).mono ?_
 ·exact l.out.cell 0
 ·exact l.out.cell 1
 rintro e E ⟨rfl,rfl⟩;go_wp2_with fail;refine Canon.seg_end k.out (Canon.seg_begin ?_);simp only[zm,zg];go_wp2_with fail;refine Canon.seg_end k.out (Canon.seg_done (by rfl) (zF ⟨.inl ⟨_,rfl,by simp,by simp⟩,zF ⟨.inl ⟨_,rfl,by simp,by simp⟩,fun _ h=>by cases h⟩⟩) ?_);go_wp2_with fail;go_ret;exact⟨rfl,1,#[.cells #[.int .i64 b,.int .i64 i] 39,.cells #[.int .i64 f,.int .i64 j] 39,.cells #[.int .i64 c,.int .i64 d] 3],by rw[alloc_eq_grow,alloc_eq_grow,alloc_eq_grow,grow_grow,grow_grow];rfl⟩
def encP(x:Int×Int):List Value:=[.int .i64 x.1,.int .i64 x.2]
theorem ltP(x y:Int×Int):ltOf cmpE x y=decide (ltE x y):=by
 unfold ltOf;rw[Bool.eq_iff_iff,decide_eq_true_eq,decide_eq_true_eq];exact cmpE_neg x y
theorem swoE:SWO (ltOf cmpE) where
 irrefl x:=by rw[ltP];simp[ltE]
 trans x y z h1 h2:=by
  rw[ltP,decide_eq_true_eq]at h1 h2 ⊢;unfold ltE at *;omega
 ntrans x y z h1 h2:=by
  rw[ltP,decide_eq_false_iff_not]at h1 h2 ⊢;unfold ltE at *;omega
theorem Zuh(L:List (Int×Int)):flatK encP 2 L.toArray=(Zbl L).toArray:=by
 apply Array.ext
 ·simp[Zgs]
 ·intro j d k;have e:j<L.length*2:=by simpa using d
  have f:j/2<L.length:=by omega
  rw[show(flatK encP 2 L.toArray)[j]=(flatK encP 2 L.toArray)[j]! from(getElem!_pos (flatK encP 2 L.toArray) j d).symm,get_flatK _ _ _ _ (by simpa using e)];have i:L.toArray[j/2]! = L[j/2]:=by simp[getElem!_pos,f]
  rw[i];have g:=Zit L (j/2) L[j/2] (zG f);have c:=congrArg (fun l:List Value=>l[j%2]?) g;rw[List.getElem?_take,if_pos (by omega),List.getElem?_drop,show j/2*2+j%2=j from by omega]at c;have h:(Zbl L)[j]? = some ((Zbl L).toArray[j]):=by
   rw[zG (by rw[Zgs];exact e)];simp
  rw[h]at c;have a:(encP L[j/2])[j%2]? = some ((Zbl L).toArray[j]):=c.symm;have b:j%2<(encP L[j/2]).length:=by unfold encP;simp;omega
  rw[zG b]at a;injection a with a;rw[getElem!_pos (encP L[j/2]) (j%2) b,a]
theorem sorted_pair{d':Array (Int×Int)}{n:Nat}(h:SortedIn (ltOf cmpE) 0 n d')(hn:d'.size=n):d'.toList.Pairwise (fun x y=>¬ltE y x):=by
 rw[List.pairwise_iff_getElem];intro i j hi a b;have:=h i j (by omega) b (by simpa[hn]using a);rw[ltP]at this;simp at hi a;simpa[getElem!_pos,hi,a]using this
theorem Zw7(L:List (Int×Int))(g cap base:Nat)(w:World)(h:w.ownsRow base 39 2 (.slice (some ⟨g,0,none⟩) L.length cap) L.length (Zbl L))(hl:L.length<=603979776) :
  Calls Tryz.prog 141 #[.slice (some ⟨g,0,none⟩) L.length cap,.func (.func 110) #[] #[]] w fun e k =>
   e=.returned (.tuple #[])/\(∃L':List (Int×Int),L'.Perm L/\L'.length=L.length/\L'.Pairwise (fun x y=>¬ltE y x)/\k.ownsRow base 39 2 (.slice (some ⟨g,0,none⟩) L.length cap) L.length (Zbl L'))/\w.grownBy k (some g):=by
 have eg:∀args w,(callFunc 110 args).run Tryz.prog w=.ok (.enter 110 args) w:=enters_of Tryz.func110 (by kernel_rfl) rfl;have i:CmpLays Tryz.prog 110 #[] encP 2 cmpE g 0 L.toArray.size w:=fun m os dk _ x y=>order2_calls x y _
 have s:HoldsK encP 2 w g 0 L.toArray:=by
  unfold HoldsK;rw[Zuh];intro j d;have d:j<L.length*2:=by simpa[Zgs]using d
  rw[Nat.zero_add];refine⟨?_,h.frozenAt j⟩;rw[h.cellAt j d,zG (by rw[Zgs];exact d)];simp[getElem!_pos,Zgs,d]
 have c:=AnyQ.slices_SortFunc Tryz.sortEdge 2 Tryz.isAgg39 Tryz.sizeOf39 encP (fun _=>rfl) (fun x v hv=>by simp[encP]at hv;rcases hv with rfl|rfl<;>rfl) cmpE swoE 110 #[] g 0 cap L.toArray w eg i s (h.lt g rfl).2 (by simp;omega)
 change Calls Tryz.prog 141 _ _ _ at c
 refine c.mono ?_;rintro e k ⟨rfl,a,n,os,o,p,rfl⟩;have b:a.size=L.length:=by have:=o.1;simpa using this
 have f:a.toList.Perm L:=by
  have:=o.2.2;have q:a.extract 0 L.toArray.size=a:=by rw[show L.toArray.size=a.size from by simp[b]];simp
  have r:L.toArray.extract 0 L.toArray.size=L.toArray:=by simp
  rw[q,r]at this;simpa using this
 refine⟨rfl,⟨a.toList,f,by simpa using b,sorted_pair p b,?_⟩,Zgt id _⟩;have l:flatK encP 2 a=(Zbl a.toList).toArray:=by rw[<- Zuh]
 have:=Zq6 (m:=n) (os:=os) (flatK encP 2 a) h (by simp[b]);rw[l]at this;unfold sortWorldK putRowK;rw[l];simpa using this
end Go.Proofs.YtpbdcppaiafbgaaGreat
namespace Go.Words
open Go Go.RowKit Go.Maps Go.MapKept Go.WideElems
section
variable {P : Program} {k : TypeId} {κ α : Type} {enc : κ -> Value} {ok : κ -> Prop} {ev : α -> Value} {w : World} {b : Nat} {lm : List (κ×α)}
def RU:Value->Option (DataW Unit×List MemPlace):=fun _=>some (.lit (.bool true),[])
theorem Mp.owns(h:Mp enc ok ev w b lm)(K:KeyT P k enc ok)(hl:lm.length<=maxLen):∃D0:DataW Unit,w.ownsMap P k RU b maxLen D0/\Maps.size D0=lm.length /\
  (∀x∈lm.map (·.1),∀a,keyOf P k (enc x)=some a->has D0 a=true)/\(∀a,has D0 a=true->∃x∈lm.map (·.1),keyOf P k (enc x)=some a):=by
 obtain⟨m,l,C,v,c⟩:=h.block;have q:m.size=lm.length:=by
  have:=congrArg List.length c;simpa using this
 have i:∀x∈m.toList,∃y,rd P k RU x=some y:=fun x hx=>by
  obtain⟨a,d⟩:=Zir K c h.keys x hx;exact⟨(a,.lit (.bool true)),by simp[rd,d,RU]⟩
 refine⟨_,⟨m,l,C,⟨by omega,v,i⟩,by omega,rfl⟩,by simp[Maps.size,length_sorted,q],fun x hx a d=>?_,fun a hk=>?_⟩
 ·obtain⟨p,D,rfl⟩:=zB.1 hx;obtain⟨j,s,rfl⟩:=zE D;have g:j<m.toList.length:=by simp;omega
  obtain⟨_,o,_⟩:=Zd5 c (zG g);obtain⟨y,n⟩:=i _ (zM g);have f:=rd_key n;rw[o,d]at f;have f:=zO f;rw[has_eq,List.any_eq_true];refine⟨y,mem_sorted.2 (zB.2 ⟨_,zM g,rg_of n⟩),?_⟩;rw[<- f];exact WideAt.sameKey_self (K.keyed.key d)
 ·rw[has_eq,List.any_eq_true]at hk;obtain⟨y,n,u⟩:=hk;obtain⟨e,r,rfl⟩:=zB.1 (mem_sorted.1 n);obtain⟨j,s⟩:=List.mem_iff_getElem?.1 r;obtain⟨t,o,_⟩:=Zd5 c s;obtain⟨z,A⟩:=i e r;have B:=rd_key A;rw[rg_of A]at u;refine⟨lm[j].1,List.mem_map_of_mem (zM t),?_⟩;rw[<- o,B,WideAt.sameKey_eq u]
def CollK(P:Program)(k:TypeId)(enc:κ->Value)(keys:List κ)(left:Lit->Bool)(ss:List κ):Prop :=
 ss.Nodup/\(∀x∈ss,x∈keys)/\∀x∈keys,∀kl,keyOf P k (enc x)=some kl->(x∈ss↔left kl=false)
theorem CollK.start{D0:DataW Unit}{keys:List κ}(h:∀x∈keys,∀kl,keyOf P k (enc x)=some kl->has D0 kl=true):CollK P k enc keys (has D0) [] :=
 ⟨List.nodup_nil,(fun x hx=>by cases hx),fun x hx kl hk=>by rw[h x hx kl hk];simp⟩
theorem CollK.step[DecidableEq κ](K:KeyT P k enc ok){keys:List κ}(hok:∀x∈keys,ok x){left:Lit->Bool}{ss:List κ}(h:CollK P k enc keys left ss){x:κ}{kl:Lit}(hx:x∈keys)(hk:keyOf P k (enc x)=some kl)(hl:left kl=true) :
  CollK P k enc keys (fun z=>left z && !z.sameKey kl) (ss++[x]):=by
 obtain⟨i,j,f⟩:=h;have l:x ∉ ss:=fun hm=>by rw[(f x hx kl hk).1 hm]at hl;cases hl
 refine⟨List.nodup_append.2 ⟨i,by simp,fun a ha c hc e=>by
  rw[zU.1 hc]at e;exact l (e ▸ ha)⟩,fun y hy=>?_,fun y hy ky hky=>?_⟩
 ·rcases zP.1 hy with d|d
  ·exact j y d
  ·rw[zU.1 d];exact hx
 ·rw[zP,zU,f y hy ky hky];by_cases b:y=x
  ·subst b;rw[hk]at hky;obtain rfl:=zO hky;have:=WideAt.sameKey_self (K.keyed.key hk);simp[this]
  ·have g:ky.sameKey kl=false:=by
    rw[Bool.eq_false_iff];intro m;have e:=WideAt.sameKey_eq m;subst e;exact b (K.inj _ _ (hok y hy) (hok x hx) (K.keyed.inj hky hk))
   simp[b,g]
theorem CollK.perm(K:KeyT P k enc ok){keys:List κ}(hok:∀x∈keys,ok x)(hnd:keys.Nodup){left:Lit->Bool}{ss:List κ}(h:CollK P k enc keys left ss)(hl:∀a,left a=false):ss.Perm keys:=by
 obtain⟨c,d,e⟩:=h;refine(List.perm_ext_iff_of_nodup c hnd).2 fun x=>⟨d x,fun hx=>?_⟩
 obtain⟨a,b⟩:=K.reads x (hok x hx);exact(e x hx a b).2 (hl a)
end
end Go.Words
namespace Go.Proofs.YtpbdcppaiafbgaaGreat
open Go Go.RowKit Go.Words Go.Mesh Go.Maps
attribute [local go_sem] Oper.semAt_some
abbrev MpE(w:World)(b:Nat)(lm:List ((Int×Int)×Unit)):Prop:=Mp enc2 ok2 (fun _:Unit=>Value.bool true) w b lm
theorem keysE1_in(n:Nat)(hn:1<=n)(l Bm b:Nat)(lm:List ((Int×Int)×Unit))(J Jx:List (Int×Int)->World->Prop)
  (hY:∀pre x W,J pre W->pre.length<lm.length->YieldAt Fence.wide (n-1) Tryz.prog l #[enc2 x] W fun e W' =>
   (e=.returned (.bool true)/\J (pre++[x]) W'/\KeepsWalks W W')\/(e=.returned (.bool false)/\Jx (pre++[x]) W'))
  (W:World) (hJ:AbidesFrom W.heap.size J) (hm:W.cell? ⟨Bm,0,none⟩=some (.map (some b))) (hmp:MpE W b lm) (hlm:lm.length<=maxLen) (h0:J [] W) :
  CallsIn Fence.wide n Tryz.prog 142 #[.func (.yield l) #[] #[],.pointer (some ⟨Bm,0,none⟩)] W fun e W'=>(∃v,e=.returned v) /\
   ((∃a:List (Int×Int),a.Perm (lm.map (·.1))/\J a W')\/(∃pre:List (Int×Int),Jx pre W')):=by
 obtain⟨V,S,I,k,E⟩:=hmp.owns keyE hlm;have G:∀x∈lm.map (·.1),ok2 x:=fun x t=>by
  obtain⟨p,hp,rfl⟩:=zB.1 t;exact hmp.keys p hp
 have F:=hmp.nodup;have H:=CollK.start k;have X:=Lib.hid hY;clear hY;have g:=Lib.hid hJ;clear hJ;obtain⟨ad,M,h,N,O,ae,P⟩:=zz7 k E G F H hmp I;clear k E G F H hmp I;refine callsIn_of_wp Tryz.func142 rfl trivial ?_ rfl;simp only[Tryz.ntmps142,List.size_toArray,List.length_cons,List.length_nil,Nat.reduceAdd,Nat.reduceSub,Array.replicate_succ,Array.replicate_zero,List.push_toArray,List.append_toArray,List.nil_append,List.cons_append];gi_wp2_with (first
  | (gi_at_range;refine wpListIn_range_own _ rfl _ 103 rfl 39 4 lawE Tryz.underlying103 RU b maxLen V rfl S ?_;intro w0 T a2 aq)
  | fail)
 go_frame;gi_loopw [3] (fun _ wr=>∃(d:Lit->Bool) (i:Nat) (a:List (Int×Int)),wr.ranges Tryz.prog 39 RU b W.heap.size maxLen V d i/\a.length+i<=lm.length/\CollK Tryz.prog 39 enc2 (lm.map (·.1)) d a/\J a wr)
  (fun _ wr=>wr.rangeLeft b W.heap.size)
 case atStart=>exact⟨_,_,[],T,by rw[P.out];simp,O.out,g.out [] W w0 none h0 a2 (fun r e=>by cases e)⟩
 case round =>
  obtain⟨d,i,a,o,ap,Z,C⟩:=hrel;gi_wp2_with (first
   | (gi_at_next;refine wpListIn_next_ranges _ rfl _ rfl 39 lawE RU id id (fun u kl hk=>⟨u,rfl⟩) (fun v _ _=>⟨v,rfl⟩) b W.heap.size maxLen _ _ _ rfl o ?_ ?_)
   | fail)
  ·intro ao a5;gi_wp2_with fail;go_end0;exact⟨⟨_,rfl⟩,.inl ⟨a,Z.perm keyE h.out N.out a5,C⟩⟩
  ·intro u c kl yd yp f Q m a6 hv D U a7 a3 a8 a1;obtain⟨x,t,a9⟩:=M.out kl (has_true_of_atKey D);obtain rfl:u=enc2 x:=lawE.inj m a9;have a0:J a f:=g.out a wr f (some W.heap.size) C a3 (fun r e=>by cases e;exact⟨zl,o.iter_walk⟩);have A:=Z.step keyE h.out t m a6;obtain⟨y,z⟩:=x;simp only[enc2]at a1;have j:J a (f.alloc (.cells #[.int .i64 y,.int .i64 z] 39)):=g.out a f _ none a0 (World.grownBy_alloc f _ none) (fun r e=>by cases e);have q:=U.of_walks (KeepsWalks.alloc f (.cells #[.int .i64 y,.int .i64 z] 39));obtain⟨fn,ak,Y,af,hy,hR⟩:=X.out a (y,z) _ j (by omega);simp only[enc2]at hy;clear a8 hv D;obtain⟨an,K,ac,w⟩:=zz4 t A j q;clear t A j q;gi_wp2_with fail;refine hR.mono ?_;rintro e W3 (⟨rfl,B,a4⟩|⟨rfl,R⟩)
   ·have s:=w.out.of_walks a4;have L:=zz B;clear B;gi_wp2_with fail;go_roundw
    case rel=>exact⟨_,Q,a++[(y,z)],s,by rw[zA,List.length_singleton];omega,K.out,L.out⟩
    case measure=>rw[s.left_eq,o.left_eq];exact a7
   ·gi_wp2_with fail;refine bodyPost_ret (results_none rfl _ _ _) rfl ?_;exact⟨⟨_,rfl⟩,.inr ⟨_,R⟩⟩
theorem keysE_stops(n:Nat)(hn:1<=n)(Bm b:Nat)(lm:List ((Int×Int)×Unit))(w:World)(hBm:Bm<w.heap.size)(hm:w.cell? ⟨Bm,0,none⟩=some (.map (some b)))(hmp:MpE w b lm)(hlm:lm.length<=maxLen) :
  SeqStopsK Fence.wide n Tryz.prog 142 #[.pointer (some ⟨Bm,0,none⟩)] (fun x:Int×Int=>#[enc2 x]) KeepsWalks (fun ss=>ss.Perm (lm.map (·.1))) (fun _=>True) lm.length w:=fun l J Jx W hW hJ _ hY h0=>by
 refine(keysE1_in n hn l Bm b lm J Jx hY W hJ ((hW.cell (p:=⟨Bm,0,none⟩) hBm).trans hm) (hmp.below hW hmp.lt) hlm h0).mono ?_;rintro e f ⟨c,a|⟨d,a⟩⟩
 ·exact⟨c,.inl a⟩
 ·exact⟨c,.inr ⟨d,trivial,a⟩⟩
theorem keysE_calls(mb:Option Nat)(w:World) :
  Calls Tryz.prog 109 #[.map mb] w fun e w'=>e=.returned (.func (.func 142) #[] #[.pointer (some ⟨w.heap.size,0,none⟩)])/\w'=w.alloc (.cells #[.map mb] 103):=by
 go_enter Tryz.func109,Tryz.ntmps109;go_wp2;go_ret;exact⟨rfl,rfl⟩
open Go Go.RowKit Go.Words Go.Mesh Go.Maps
attribute [local go_sem] Oper.semAt_some
theorem infoE2:(Tryz.prog.info? 39).map (fun i=>(i.zero,i.size,i.bytes))=some (some (.agg #[.int .i64 0,.int .i64 0]),2,16):=by kernel_rfl
def AtE(r:Nat)(x:Int×Int)(a0:Array Value)(a':Act)(W:World):Prop:=∃q,r<=q/\Bk W q 39 [.int .i64 x.1,.int .i64 x.2]/\a'={ tmps:=(a0.setIfInBounds 7 (enc2 x)).setIfInBounds 5 (.pointer (some ⟨q,0,none⟩)),defers:=[] }
theorem atE_own(r:Nat)(x:Int×Int)(a0:Array Value)(a':Act)(B:Nat):OwnFrom B (fun(_:Unit) W=>AtE r x a0 a' W):=fun _ X Y row ⟨q,h1,h2,h3⟩ hg hrow=>by
 refine⟨q,h1,(hg.block q h2.lt fun e=>?_).trans h2,h3⟩;obtain⟨o,a,b⟩:=(hrow q e.symm).2;rw[show X.heap[q]? = _ from h2]at a;cases a;cases b
theorem Zy7{w:World}{Bm b:Nat}{lm:List ((Int×Int)×Unit)}(hBm:Bm<w.heap.size)(hm:w.cell? ⟨Bm,0,none⟩=some (.map (some b)))(hmp:MpE w b lm)(hlm:lm.length<=1000000) :
  Calls Tryz.prog 161 #[.slice none 0 0,.func (.func 142) #[] #[.pointer (some ⟨Bm,0,none⟩)]] w fun e w' =>
   (∃(r:Value) (ss:List (Int×Int)),e=.returned r/\ss.Perm (lm.map (·.1))/\w'.ownsRow w.heap.size 39 2 r ss.length (Zbl ss))/\Below w.heap.size w w':=by
 refine(callsIn_wide (n:=6)).1 ?_;refine callsIn_of_wp_marks Tryz.func161 rfl trivial ?_ rfl;simp only[Tryz.ntmps161,List.size_toArray,List.length_cons,List.length_nil,Nat.reduceAdd,Nat.reduceSub,Array.replicate_succ,Array.replicate_zero,List.push_toArray,List.append_toArray,List.nil_append,List.cons_append];gi_wp2_with fail;obtain⟨d,v⟩:∃d,d=w.heap.size:=⟨_,rfl⟩;rw[<- v];obtain⟨g,z⟩:∃g,g=w.alloc (.cells #[.slice none 0 0] 25):=⟨_,rfl⟩;have N:Below w.heap.size w g:=by rw[z];exact(zr _ w).alloc zl _
 have b1:Boxed g d 25 (.slice none 0 0):=by rw[z];exact zawq v _ _
 have a1:g.cell? ⟨Bm,0,none⟩=some (.map (some b)):=(N.cell (p:=⟨Bm,0,none⟩) hBm).trans hm;have R:MpE g b lm:=hmp.below N hmp.lt;have ao:g.heap.size=d+1:=by rw[z];simp[v]
 rw[<- z];clear z;have G:d<=g.heap.size/\Bm<g.heap.size/\d+1<=g.heap.size:=by omega
 have a0:lm.length<=maxLen:=by unfold maxLen;omega
 obtain⟨m,ac⟩:=zz2 v hmp;clear v hmp;refine wpIn_rangeFunc_ownH rfl (by decide) (gf:=142) (lb:=#[.pointer (some ⟨Bm,0,none⟩)]) rfl trivial (enters_of Tryz.func142 (by kernel_rfl) rfl)
  (keysE_stops 5 (by decide) Bm b lm g G.2.1 a1 R a0) (fun h k=>h.trans k) (fun W l o o' _ Y _ hw=>KeepsWalks.putObj _ Y hw) (zr _ _) (fun _=>rfl)
  (fun a W=>(∃L,Boxed W d 25 L/\W.ownsRow (d+1) 39 2 L a.length (Zbl a)/\True)/\Below d w W/\d+1<=W.heap.size)
  (fun _ _ _=>False)
  ?hI ?hIx ?h0
  (fun x O W=>AtE (d+1) x #[.slice none 0 0,.func (.func 142) #[] #[.pointer (some ⟨Bm,0,none⟩)],.pointer (some ⟨d,0,none⟩),undef,.slice none 0 0,undef,.func (.func 142) #[] #[.pointer (some ⟨Bm,0,none⟩)],undef,undef,undef,undef,undef,undef] O W)
  (fun x O=>atE_own _ x _ O _) ?assign ?body ?done ?stop
 case hI =>
  refine OwnFrom.and (Own.from (holdsRow_own (d+1) d _ _ 2 (fun a:List (Int×Int)=>a.length) (fun a:List (Int×Int)=>Zbl a) (fun _ _=>True)) _) (OwnFrom.and (ownFrom_below (by rw[m.out];exact zl) G.1) ?_);exact fun _ A C row hs hg _=>Nat.le_trans hs hg.size
 case hIx=>exact fun _ _ _ _ _ h _ _=>h
 case h0=>exact⟨⟨_,b1,zn _ _ _ _,trivial⟩,by rw[m.out];exact N,G.2.2⟩
 case assign =>
  rintro l a ⟨s,t⟩ W K ⟨⟨L,J,f,-⟩,i,y⟩ I;have U:=I _ _ ((KeepsOthers.alloc W (.cells #[.int .i64 s,.int .i64 t] 39)).from _) (KeepsWalks.alloc W _) ⟨⟨L,J.alloc _,f.alloc _,trivial⟩,i.alloc (by omega) _,by simp;omega⟩ ⟨W.heap.size,y,Bk.new W _ _,rfl⟩;simp only[enc2];gi_wp2_with fail;exact U
 case body =>
  rintro l a ⟨s,t⟩ O W Y Z ⟨⟨L,J,f,-⟩,i,y⟩ ⟨q,hq,E,rfl⟩ hN;obtain⟨i0,hi,a6,a7,a8⟩:=info_parts infoE2;have hc:=J.cell;have q0:W.cell? ⟨q,0,none⟩=some (.int .i64 s):=E.cell 0;have q1:W.cell? ⟨q,1,none⟩=some (.int .i64 t):=E.cell 1;have an:a.length+1<=maxLen:=by unfold maxLen;omega
  have B:=Bk.new W 39 [.int .i64 s,.int .i64 t];have X:∀j u,([.int .i64 s,.int .i64 t]:List Value)[j]? = some u->(W.alloc (.cells #[.int .i64 s,.int .i64 t] 39)).cell? ((⟨W.heap.size,0,none⟩:Addr).add j)=some u:=fun j u hj=>by
   rw[Addr.add_lit,Nat.zero_add];exact(B.cell j).trans hj
  clear Z;have aa:=zz E;clear E;have a9:=Lib.hid B;clear B;simp only[enc2];gi_wp2_with (gi_at_builtin;refine wpListIn_append_own _ rfl _ _ 25 rfl (d+1) 39 i0 (.agg #[.int .i64 0,.int .i64 0]) 2 16 Tryz.underlying25 hi a6 a7 a8 rfl (by decide) _ _ _ rfl (f.alloc _) ⟨W.heap.size,0,none⟩ 1 1 [.int .i64 s,.int .i64 t] rfl rfl X (by simp[Value.oneCell']) (by omega) (by omega) (by have:=i.size;simp;omega) ?_;intro v' w1 H P _;obtain⟨S,M,rfl⟩:=ownsRow_succ H;obtain⟨Q,a4,a2,F,V,af⟩:=Zci J (by omega) f y H P;have ak:=Q.cell;have am:=Q.frozen);have a3:(w1.setCell ⟨d,0,none⟩ (.slice (some ⟨S,0,none⟩) (a.length+1) M)).ownsRow (d+1) 39 2 (.slice (some ⟨S,0,none⟩) (a.length+1) M) (a++[(s,t)]).length (Zbl (a++[(s,t)])):=by
   rw[Zmx,zA];exact a2
  exact⟨F.from _,⟨F.size,fun k o hk hw=>F.same k o hk (by cases o<;>first|rfl|cases hw)⟩,⟨⟨_,a4,a3⟩,i.trans (V d zl),Nat.le_trans y F.size⟩⟩
 case done =>
  rintro D ys W T a5 ⟨⟨L,J,f,-⟩,i,y⟩ I;have hc:=J.cell;gi_wp2_with fail;refine⟨by simp,.inl ⟨_,_,rfl,run_takeDeferred I,?_⟩⟩;refine⟨_,results_tmp rfl _ _ _,⟨_,ys,rfl,a5,?_⟩,?_⟩
  ·rw[<- m.out];exact ownsRow_putObj (zalq f (by omega)) _ I rfl
  ·rw[<- m.out];exact i.trans (belowK_b (w:=g) G.1 W D _ _ T I rfl rfl)
 case stop =>
  rintro D c a W T ag h I;exact h.elim
theorem Zwr{w:World}{Bm b:Nat}{lm:List ((Int×Int)×Unit)}(hBm:Bm<w.heap.size)(hm:w.cell? ⟨Bm,0,none⟩=some (.map (some b)))(hmp:MpE w b lm)(hlm:lm.length<=1000000) :
  Calls Tryz.prog 140 #[.func (.func 142) #[] #[.pointer (some ⟨Bm,0,none⟩)]] w fun e w' =>
   (∃(r:Value) (c:List (Int×Int)),e=.returned r/\c.Perm (lm.map (·.1))/\w'.ownsRow w.heap.size 39 2 r c.length (Zbl c))/\Below w.heap.size w w':=by
 have f:=Zy7 hBm hm hmp hlm;obtain⟨g,j⟩:=zz2 f hmp;clear f hmp;go_enter Tryz.func140,Tryz.ntmps140;go_wp2_with fail;refine g.out.mono ?_;rintro e l ⟨⟨r,c,rfl,i,a⟩,k⟩;obtain⟨d,h⟩:=zz2 a i;clear a i;go_wp2_with fail;go_ret;exact⟨⟨_,c,rfl,h.out,d.out⟩,k⟩
theorem own_addrE{w:World}{base:Nat}{e:TypeId}{size n cap:Nat}{A:Option Addr}{xs:List Value}(h:w.ownsRow base e size (.slice A n cap) n xs)(hn:0<n):∃g,A=some ⟨g,0,none⟩:=by
 obtain⟨m,rfl⟩:∃m,n=m+1:=⟨n-1,by omega⟩;obtain⟨c,b,a⟩:=ownsRow_succ h;injection a with a;exact⟨_,a⟩
theorem sortedge_all{w:World}{base:Nat}{v:Value}{ss:List (Int×Int)}(h:w.ownsRow base 39 2 v ss.length (Zbl ss))(hl:ss.length<=1000000) :
  Calls Tryz.prog 141 #[v,.func (.func 110) #[] #[]] w fun e b =>
   e=.returned (.tuple #[])/\(∃L:List (Int×Int),L.Perm ss/\L.length=ss.length/\L.Pairwise (fun x y=>¬ltE y x)/\b.ownsRow base 39 2 v ss.length (Zbl L))/\w.grownBy b v.ownBlock:=by
 obtain⟨A,a,rfl,i⟩:=zaeq h;by_cases f:ss.length=0
 ·have c:=AnyF.slices_SortFunc_none Tryz.sortEdge A a (.func (.func 110) #[] #[]) w
  change Calls Tryz.prog 141 _ _ _ at c
  have d:ss=[]:=List.length_eq_zero_iff.1 f;subst d;refine c.mono ?_;rintro e b ⟨rfl,rfl⟩;exact⟨rfl,⟨[],List.Perm.refl _,rfl,List.Pairwise.nil,h⟩,⟨rfl,rfl,rfl,zl,fun _ _ _=>rfl⟩⟩
 ·obtain⟨g,rfl⟩:=own_addrE h (by omega);exact Zw7 ss g a base w h (by omega)
open Go Go.RowKit Go.Words Go.Mesh Go.Maps
theorem sortedE_calls{w:World}{Bm b:Nat}{lm:List ((Int×Int)×Unit)}(hBm:Bm<w.heap.size)(hm:w.cell? ⟨Bm,0,none⟩=some (.map (some b)))(hmp:MpE w b lm)(hlm:lm.length<=1000000) :
  Calls Tryz.prog 108 #[.func (.func 142) #[] #[.pointer (some ⟨Bm,0,none⟩)],.func (.func 110) #[] #[]] w fun e w' =>
   (∃(r:Value) (L:List (Int×Int)),e=.returned r/\L.Perm (lm.map (·.1))/\L.Pairwise (fun x y=>¬ltE y x)/\w'.ownsRow w.heap.size 39 2 r L.length (Zbl L))/\Below w.heap.size w w':=by
 have d:=Zwr hBm hm hmp hlm;obtain⟨g,D⟩:=zz2 d hmp;clear d hmp;go_enter Tryz.func108,Tryz.ntmps108;go_wp2_with fail;refine g.out.mono ?_;rintro e J ⟨⟨r,E,rfl,l,a⟩,v⟩;have C:E.length<=1000000:=by rw[l.length_eq,zL];exact hlm
 have f:=sortedge_all a C;obtain⟨A,H,rfl,I⟩:=zaeq a;have B:=v.size;obtain⟨c,p,h⟩:=zz3 a l f;clear a l f;go_wp2_with fail;refine h.out.mono ?_;rintro e K ⟨rfl,⟨L,i,s,t,j⟩,k⟩;have z:=v.grown k B (fun q hq=>(c.out.lt q hq).1);have u:=i.trans p.out;rw[<- s]at j;obtain⟨n,F,m,o,G⟩:=zz5 j i t u k;clear j i t u k;go_wp2_with fail;go_ret;exact⟨⟨_,L,rfl,o.out,m.out,by have:=n.out;rw[s]at this ⊢;exact this⟩,z⟩
theorem fit_calls(a b c n:Int)(w:World)(h:(0<=a/\a<n)/\(0<=b/\b<n)/\(0<=c/\c<n))(hd:a≠b/\b≠c/\c≠a) :
  Calls Tryz.prog 104 #[.agg #[.int .i64 a,.int .i64 b,.int .i64 c],.int .i64 n] w fun e w'=>e=.returned (.bool true)/\Below w.heap.size w w':=by
 obtain⟨⟨j,k⟩,⟨l,m⟩,o,p⟩:=h;obtain⟨f,g,i⟩:=hd;have q:(a != b)=true:=by rw[bne_iff_ne];exact f
 have r:(b != c)=true:=by rw[bne_iff_ne];exact g
 have s:(c != a)=true:=by rw[bne_iff_ne];exact i
 have d:=(zr w.heap.size w).alloc zl (.cells #[.int .i64 a,.int .i64 b,.int .i64 c] 57);have t:∀W:World,(Instr.index 57 (.agg #[.int .i64 a,.int .i64 b,.int .i64 c]) (.int .i64 0)).run Tryz.prog W=.ok (.int .i64 a) W:=fun W=>by kernel_rfl
 have u:∀W:World,(Instr.index 57 (.agg #[.int .i64 a,.int .i64 b,.int .i64 c]) (.int .i64 1)).run Tryz.prog W=.ok (.int .i64 b) W:=fun W=>by kernel_rfl
 have v:∀W:World,(Instr.index 57 (.agg #[.int .i64 a,.int .i64 b,.int .i64 c]) (.int .i64 2)).run Tryz.prog W=.ok (.int .i64 c) W:=fun W=>by kernel_rfl
 go_enter Tryz.func104,Tryz.ntmps104;go_wp2;refine wp_loop_rounds 4 ?_;rw[rounds_succ];go_wp2;rw[rounds_succ];go_wp2;rw[rounds_succ];go_wp2;rw[rounds_succ];go_wp2;go_ret;exact⟨rfl,d⟩
theorem Surf_fits{N:Int}{T:List T3}(h:Surf N T){t:Nat}(ht:t<T.length):((0<=Mesh.vt T (3*t)/\Mesh.vt T (3*t)<N)/\(0<=Mesh.vt T (3*t+1)/\Mesh.vt T (3*t+1)<N)/\(0<=Mesh.vt T (3*t+2)/\Mesh.vt T (3*t+2)<N)) /\
  Mesh.vt T (3*t)≠Mesh.vt T (3*t+1)/\Mesh.vt T (3*t+1)≠Mesh.vt T (3*t+2)/\Mesh.vt T (3*t+2)≠Mesh.vt T (3*t):=by
 have a:=h.loop (3*t) (by omega);have b:=h.loop (3*t+1) (by omega);have c:=h.loop (3*t+2) (by omega);rw[show nx (3*t)=3*t+1 by unfold nx;omega]at a;rw[show nx (3*t+1)=3*t+2 by unfold nx;omega]at b;rw[show nx (3*t+2)=3*t by unfold nx;omega]at c;exact⟨⟨h.rng _ (by omega),h.rng _ (by omega),h.rng _ (by omega)⟩,a,b,c⟩
theorem index_fits{w:World}{B q:Nat}{sv:Value}{N:Int}{T:List T3}(hT:Sl 3 RTri w B sv T)(hB0:B<=w.heap.size)(hs:Surf N T)(hq:q<w.heap.size)(hc:w.cell? ⟨q,0,none⟩=some (.int .i64 N)) :
  Calls Tryz.prog 136 #[sv,.func (.func 103) #[] #[.pointer (some ⟨q,0,none⟩)]] w fun e w'=>e=.returned (.int .i64 (-1))/\Below w.heap.size w w':=by
 obtain⟨A,G,rfl,y⟩:=hT.form;have z:=hs.tmax;have r:∀(a b c:Int) (wz:World),Below w.heap.size w wz->(0<=a/\a<N)/\(0<=b/\b<N)/\(0<=c/\c<N)->a≠b/\b≠c/\c≠a ->
   Calls Tryz.prog 103 #[.agg #[.int .i64 a,.int .i64 b,.int .i64 c],.pointer (some ⟨q,0,none⟩)] wz fun e w'=>e=.returned (.bool false)/\Below wz.heap.size wz w':=fun a b c wz hz h1 h2=>by
  have v:wz.cell? ⟨q,0,none⟩=some (.int .i64 N):=(hz.cell (p:=⟨q,0,none⟩) hq).trans hc;have i:=(zr wz.heap.size wz).alloc zl (.cells #[.int .i64 a,.int .i64 b,.int .i64 c] 57);have H:(wz.alloc (.cells #[.int .i64 a,.int .i64 b,.int .i64 c] 57)).cell? ⟨q,0,none⟩=some (.int .i64 N):=(i.cell (p:=⟨q,0,none⟩) (by show q<_;have:=hz.size;omega)).trans v;have g:=fun W=>fit_calls a b c N W h1 h2
  clear hc;obtain⟨n,h,E,F⟩:=zz4 hT g h1 h2;clear hT g h1 h2;go_enter Tryz.func103,Tryz.ntmps103;go_wp2_with fail;refine(h.out _).mono ?_;rintro e m ⟨rfl,j⟩;have u:=i.trans (j.mono i.size);go_wp2_with fail;go_ret;exact⟨rfl,u⟩
 have C:=zr w.heap.size w;obtain⟨n,s⟩:=zz2 hT r;clear hT r;go_enter Tryz.func136,Tryz.ntmps136;go_wp2_with fail;go_loopw[8] (fun iv wr=>∃t:Nat,t<=T.length/\iv=.int .i64 (t:Int)/\Below w.heap.size w wr) (fun iv _=>T.length-(intOf iv).toNat)
 case atStart=>exact⟨0,by omega,rfl,C⟩
 case round =>
  obtain⟨t,K,rfl,f⟩:=hrel;obtain⟨m,x⟩:∃m,m=wr:=⟨_,rfl⟩;subst x;by_cases k:t<T.length
  ·obtain⟨b,o,rfl,J,d⟩:=Zbw (n.out.below zaaq (f.mono hB0)) k;have D:=d 0 (by omega);have L:=d 1 (by omega);have M:=d 2 (by omega);simp only[Nat.add_zero]at D;have g:=s.out (Mesh.vt T (3*t)) (Mesh.vt T (3*t+1)) (Mesh.vt T (3*t+2)) m f (Surf_fits hs k).1 (Surf_fits hs k).2;have I:(t:Int)<(T.length:Int):=by omega
   clear d;generalize Mesh.vt T (3*t)=O at *;generalize Mesh.vt T (3*t+1)=P at *;generalize Mesh.vt T (3*t+2)=Q at *;have h:=zz g;clear g;go_wp2_with fail;refine h.out.mono ?_;rintro e R ⟨rfl,j⟩;have l:=f.trans (j.mono f.size);go_wp2_with fail;exact⟨⟨t+1,by omega,by simp,l⟩,by simp[intOf];omega⟩
  ·obtain rfl:t=T.length:=by omega
   go_wp2_with fail;go_ret;exact⟨rfl,f⟩
theorem Zxw{w:World}{B:Nat}{sv:Value}{N:Int}{T:List T3}(hT:Sl 3 RTri w B sv T)(hB0:B<=w.heap.size)(hs:Surf N T) :
  Calls Tryz.prog 61 #[.agg #[.int .i64 N,sv]] w fun e w'=>e=.returned (.bool true)/\Below w.heap.size w w':=by
 obtain⟨A,c,rfl,t⟩:=hT.form;have u:=hs.tmax;have x:=hs.n0;have y:=hs.nmax;have a:=Bk.new w 24 [.int .i64 N,.slice A T.length c];have g:=(zr w.heap.size w).alloc zl (.cells #[.int .i64 N,.slice A T.length c] 24);have m:=a.cell 0;have p:=a.cell 1;simp only[List.getElem?_cons_zero,List.getElem?_cons_succ]at m p;have r:=a.lt;have b:=hT.below zaaq (g.mono hB0);generalize s:w.alloc (.cells #[.int .i64 N,.slice A T.length c] 24)=n at *;have d:=index_fits b (by omega) hs r m;have j:Calls Tryz.prog 102 #[.slice A T.length c,.func (.func 103) #[] #[.pointer (some ⟨w.heap.size,0,none⟩)]] n fun e w'=>e=.returned (.bool false)/\Below n.heap.size n w':=by
  clear s m p;obtain⟨o,k,i,f⟩:=zz4 hT b a d;clear hT b a d;go_enter Tryz.func102,Tryz.ntmps102;go_wp2_with fail;refine f.out.mono ?_;rintro e v ⟨rfl,h⟩;go_wp2_with fail;go_ret;exact⟨rfl,h⟩
 have z:¬(8192:Int)<(T.length:Int):=by omega
 obtain⟨o,k,i,f,l⟩:=zz5 hT b a d j;clear hT b a d j;go_enter Tryz.func61,Tryz.ntmps61;go_wp2_with fail;refine l.out.mono ?_;rintro e v ⟨rfl,h⟩;have q:=g.trans (h.mono g.size);go_wp2_with fail;go_ret;exact⟨rfl,q⟩
end Go.Proofs.YtpbdcppaiafbgaaGreat
namespace Go.Mesh
def ek(T:List T3)(c:Nat):Int×Int:=(min (vt T c) (vt T (nx c)),max (vt T c) (vt T (nx c)))
def EdgesIs(T:List T3)(L:List (Int×Int)):Prop:=L.Pairwise ltE/\∀e,e∈L↔∃c,c<3*T.length/\e=ek T c
theorem sorted_strict{L:List (Int×Int)}(h:L.Pairwise (fun x y=>¬ltE y x))(hn:L.Nodup):L.Pairwise ltE:=by
 refine List.Pairwise.imp₂ (fun {a b} h1 h2=>?_) h hn;unfold ltE at *;have:a.1≠b.1\/a.2≠b.2:=by
  rcases Decidable.em (a.1=b.1)with c|c
  ·refine .inr fun h4=>h2 (Prod.ext c h4)
  ·exact .inl c
 omega
end Go.Mesh
namespace Go.Proofs.YtpbdcppaiafbgaaGreat
open Go Go.RowKit Go.Words Go.Mesh Go.Maps
theorem Zt6{w:World}{B:Nat}{sv:Value}{N:Int}{T:List T3}(hT:Sl 3 RTri w B sv T)(hB0:B<=w.heap.size)(hs:Surf N T) :
  Calls Tryz.prog 67 #[.agg #[.int .i64 N,sv]] w fun e w'=>(∃(r:Value) (L:List (Int×Int)),e=.returned r/\EdgesIs T L/\w'.ownsRow w.heap.size 39 2 r L.length (Zbl L))/\Below w.heap.size w w':=by
 obtain⟨A,I,rfl,c6⟩:=hT.form;have c7:=hs.tmax;have cm:=hs.nmax;have G:=Bk.new w 24 [.int .i64 N,.slice A T.length I];have ac:=(zr w.heap.size w).alloc zl (.cells #[.int .i64 N,.slice A T.length I] 24);have c0:=G.cell 0;have c1:=G.cell 1;simp only[List.getElem?_cons_zero,List.getElem?_cons_succ]at c0 c1;have bl:=G.lt;have aa:=hT.below zaaq (ac.mono hB0);generalize br:w.alloc (.cells #[.int .i64 N,.slice A T.length I] 24)=w0 at *;have au:=Zxw aa (by omega) hs;have bo:=@run_makeMap Tryz.prog;obtain⟨cf,bx,b2,b3⟩:=zz4 hT G aa au;clear hT G aa au;go_enter Tryz.func67,Tryz.ntmps67;go_wp2_with fail;refine b3.out.mono ?_;rintro e m ⟨rfl,V⟩;have cq:=V.size;have ad:=ac.trans (V.mono ac.size);have a9:=b2.out.below zaaq (V.mono (by omega));have d1:m.cell? ⟨w.heap.size,1,none⟩=some (.slice A T.length I):=(V.cell (p:=⟨w.heap.size,1,none⟩) bl).trans c1;have M:MpE (m.alloc (.map #[] 0)) m.heap.size []:=Mp.new m;have ch:=ad.alloc ad.size (.map #[] 0);have W:=(zr m.heap.size m).alloc zl (.map #[] 0);have d2:(m.alloc (.map #[] 0)).cell? ⟨w.heap.size,1,none⟩=some (.slice A T.length I):=(W.cell (p:=⟨w.heap.size,1,none⟩) (by show w.heap.size<_;omega)).trans d1;have bv:m.heap.size<(m.alloc (.map #[] 0)).heap.size:=by simp
 have ar:=a9.below zaaq (W.mono (by omega));generalize bs:m.alloc (.map #[] 0)=w2 at *;obtain⟨f,a1⟩:∃f,f=m.heap.size:=⟨_,rfl⟩;rw[<- a1]at M W bv;have ay:=a1.symm;clear c0 c1 d1;obtain⟨b1,c4,an,b6,b7⟩:=zz5 a9 ar M a1 ay;clear a9 ar M a1 ay;go_wp2_with fail;clear bo br bs;rw[b7.out];have ck:m.heap.size<=f:=by rw[b6.out];exact zl
 have X:∀e,e∈([]:List ((Int×Int)×Unit)).map (·.1)↔∃c,c<3*0+0/\e=ek T c:=fun e=>⟨fun h=>(List.not_mem_nil h).elim,fun⟨c,h,_⟩=>by omega⟩
 have a3:=zz X;clear X;go_loopw[16] (fun iv wr=>∃(t:Nat) (g:List ((Int×Int)×Unit)),t<=T.length/\iv=.int .i64 (t:Int)/\MpE wr f g/\(∀e,e∈g.map (·.1)↔∃c,c<3*t+0/\e=ek T c)/\g.length<=3*t+0/\Below f m wr) (fun iv _=>T.length-(intOf iv).toNat)
 case atStart=>exact⟨0,[],by omega,rfl,an.out,a3.out,by simp,W⟩
 case round =>
  obtain⟨t,g,ht,rfl,d,a,K,z⟩:=hrel;obtain⟨n,bt⟩:∃n,n=wr:=⟨_,rfl⟩;subst bt;have bb:=d.lt;by_cases bq:t<T.length
  ·obtain⟨b,o,rfl,hb,F⟩:=Zbw (b1.out.below zaaq (z.mono (by omega))) bq;have k0:=F 0 (by omega);have k1:=F 1 (by omega);have k2:=F 2 (by omega);simp only[Nat.add_zero]at k0;clear F;have cp:(t:Int)<(T.length:Int):=by omega
   have b0:∀k,k<3->Mesh.vt T (3*t+k)=([Mesh.vt T (3*t),Mesh.vt T (3*t+1),Mesh.vt T (3*t+2)].getD k 0):=fun k hk=>by
    have:k=0\/k=1\/k=2:=by omega
    rcases this with rfl|rfl|rfl<;>rfl
   have ak:∀k,k<3->0<=Mesh.vt T (3*t+k)/\Mesh.vt T (3*t+k)<4096:=fun k hk=>by have:=hs.rng (3*t+k) (by omega);omega
   have E:=Bk.new n 57 [.int .i64 (Mesh.vt T (3*t)),.int .i64 (Mesh.vt T (3*t+1)),.int .i64 (Mesh.vt T (3*t+2))];have H:MpE (n.alloc (.cells #[.int .i64 (Mesh.vt T (3*t)),.int .i64 (Mesh.vt T (3*t+1)),.int .i64 (Mesh.vt T (3*t+2))] 57)) f g:=d.alloc _;have u:=z.alloc (by omega) (.cells #[.int .i64 (Mesh.vt T (3*t)),.int .i64 (Mesh.vt T (3*t+1)),.int .i64 (Mesh.vt T (3*t+2))] 57);obtain⟨v,j,a8,U,D,s,i⟩:=zz7 d a b0 ak E H u;clear d a b0 ak E H u;go_wp2_with fail;have E:=D.out;have H:=s.out;have u:=i.out;clear D s i k0 k1 k2;generalize n.alloc (.cells #[.int .i64 (Mesh.vt T (3*t)),.int .i64 (Mesh.vt T (3*t+1)),.int .i64 (Mesh.vt T (3*t+2))] 57)=w4 at *;have cn:f≠n.heap.size:=by omega
   generalize n.heap.size=q at *;obtain⟨D,s,i⟩:=zz3 E H u;clear E H u;go_loopw[20] (fun kv wr=>∃(k:Nat) (g:List ((Int×Int)×Unit)),k<=3/\kv=.int .i64 (k:Int)/\MpE wr f g/\(∀e,e∈g.map (·.1)↔∃c,c<3*t+k/\e=ek T c)/\g.length<=3*t+k/\Bk wr q 57 [.int .i64 (Mesh.vt T (3*t)),.int .i64 (Mesh.vt T (3*t+1)),.int .i64 (Mesh.vt T (3*t+2))]/\Below f m wr) (fun kv _=>3-(intOf kv).toNat)
   case atStart=>exact⟨0,g,by omega,rfl,s.out,j.out,K,D.out,i.out⟩
   case round =>
    clear s j K D i v bb;obtain⟨k,g,hk,rfl,d,a,K,E,z⟩:=hrel;obtain⟨Q,bu⟩:∃Q,Q=wr:=⟨_,rfl⟩;subst bu;by_cases av:k<3
    ·have cj:(k:Int)<3:=by omega
     obtain⟨l,ci,ah⟩:∃l:Nat,((k:Int)+1)%3=(l:Int)/\(k+1)%3=l:=⟨(k+1)%3,by omega,rfl⟩;have ag:l<3:=by omega
     have ca:Q.cell? ⟨q,k,none⟩=some (.int .i64 (Mesh.vt T (3*t+k))):=by
      rw[E.cell k,a8.out k av];have:k=0\/k=1\/k=2:=by omega
      rcases this with rfl|rfl|rfl<;>rfl
     have cb:Q.cell? ⟨q,l,none⟩=some (.int .i64 (Mesh.vt T (3*t+l))):=by
      rw[E.cell l,a8.out l ag];have:l=0\/l=1\/l=2:=by omega
      rcases this with rfl|rfl|rfl<;>rfl
     have ae:ek T (3*t+k)=(min (Mesh.vt T (3*t+k)) (Mesh.vt T (3*t+l)),max (Mesh.vt T (3*t+k)) (Mesh.vt T (3*t+l))):=by
      unfold ek;rw[show nx (3*t+k)=3*t+l by unfold nx;omega]
     have ra:=U.out k av;have rb:=U.out l ag;generalize Mesh.vt T (3*t+k)=x at *;generalize Mesh.vt T (3*t+l)=y at *;obtain⟨xa,xb⟩:=ra;obtain⟨ya,yb⟩:=rb;have aj:ok2 (min x y,max x y):=⟨by unfold I64;omega,by unfold I64;omega⟩;have Y:∀e,e∈(put g (min x y,max x y) ()).map (·.1)↔∃c,c<3*t+(k+1)/\e=ek T c:=fun e=>by
      rw[keys_put,a e,<- ae];constructor
      ·rintro(h|⟨c,h1,J⟩)
       ·exact⟨3*t+k,by omega,h⟩
       ·exact⟨c,by omega,J⟩
      ·rintro⟨c,h1,J⟩;by_cases bm:c=3*t+k
       ·exact .inl (by rw[J,bm])
       ·exact .inr ⟨c,by omega,J⟩
     have a0:(put g (min x y,max x y) ()).length<=3*t+(k+1):=by have:=length_put_le g (min x y,max x y) ();omega
     have ai:=d.drew;obtain⟨v,j,c5,ao,a4,a6,am,D,bz⟩:=zz9 d a ae aj Y a0 ai E ah;clear d a ae aj Y a0 ai E ah;go_wp2_with fail;refine Canon.wp_region_text mixed (by kernel_rfl) ?_;go_wp2_with fail;refine Canon.chk (by rfl) ?_;go_wp2_with(at_mapUpdate;refine zbdq _ rfl _ _ _ 103 rfl 39 4 keyE Tryz.underlying103 f g rfl am.out (min x y,max x y) rfl ao.out () rfl ?_;intro w6 C af bc;obtain⟨S,R⟩:=zz2 C af;clear C af;clear bc);have bp:=(D.out.drew).grown R.out (by intro e;injection e with e;omega);have ap:=(z.drew).grown R.out (by have:=v.out.lt;show f<=Q.heap.size;omega) (fun r hr=>by cases hr;exact zl);exact⟨⟨k+1,_,by omega,by simp,S.out,a4.out,a6.out,bp,ap⟩,by simp[intOf];omega⟩
    ·obtain rfl:k=3:=by omega
     have Z:∀e,e∈g.map (·.1)↔∃c,c<3*(t+1)+0/\e=ek T c:=fun e=>by rw[a e,show 3*(t+1)+0=3*t+3 by omega]
     obtain⟨v,j,a5,D⟩:=zz4 d a Z E;clear d a Z E;go_wp2_with fail;exact⟨⟨t+1,g,by omega,by simp,v.out,a5.out,by omega,z⟩,by simp[intOf];omega⟩
  ·obtain rfl:t=T.length:=by omega
   have aw:=keysE_calls (some f) n;have bi:Below f m (n.alloc (.cells #[.map (some f)] 103)):=z.alloc (by omega) _;have C:MpE (n.alloc (.cells #[.map (some f)] 103)) f g:=d.alloc _;have az:=sortedE_calls (w:=n.alloc (.cells #[.map (some f)] 103)) (Bm:=n.heap.size) (b:=f) (by simp) (Boxed.new n _ _).cell C (by omega);have co:(n.alloc (.cells #[.map (some f)] 103)).heap.size=n.heap.size+1:=by simp
   have ax:=d.nodup;obtain⟨v,j,b4,S,b8,b5⟩:=zz6 d a aw C az ax;clear d a aw C az ax;go_wp2_with fail;refine b4.out.mono ?_;rintro e w4 ⟨rfl,rfl⟩;go_wp2_with fail;refine b8.out.mono ?_;rintro e Q ⟨⟨r,L,rfl,hp,P,O⟩,bj⟩;have bk:Below w.heap.size w Q:=(ad.trans (bi.mono (by omega))).trans (bj.mono (by omega));have hL:EdgesIs T L:=⟨sorted_strict P (hp.nodup_iff.2 b5.out),fun e=>by rw[hp.mem_iff,j.out e];exact⟨fun⟨c,h1,J⟩=>⟨c,by omega,J⟩,fun⟨c,h1,J⟩=>⟨c,by omega,J⟩⟩⟩;have a2:=zalq O (by omega:w.heap.size<=_);obtain⟨cg,c3,c2,bd,a7⟩:=zz5 hp P O hL a2;clear hp P O hL a2;go_wp2_with fail;go_ret;exact⟨⟨_,L,rfl,bd.out,a7.out⟩,bk⟩
end Go.Proofs.YtpbdcppaiafbgaaGreat
namespace Go.Mesh
section
variable {N : Int} {T : List T3} {L : List (Int×Int)}
theorem ek_near(h:Surf N T){a b:Int}:(∃c,c<3*T.length/\(a,b)=ek T c)↔a<b/\near T a b=true:=by
 constructor
 ·rintro⟨c,f,k⟩;have n:=h.loop c f;have m:=h.rng c f;unfold ek at k;have i:a=min (vt T c) (vt T (nx c)):=congrArg Prod.fst k;have d:b=max (vt T c) (vt T (nx c)):=congrArg Prod.snd k;have g:near T (vt T c) (vt T (nx c))=true:=(Zpf h m _).2 ((Zm6 h m _).2 ⟨c,f,rfl,.inl rfl⟩);rcases Int.lt_or_gt_of_ne n with j|j
  ·rw[show a=vt T c by omega,show b=vt T (nx c) by omega];exact⟨j,g⟩
  ·rw[show a=vt T (nx c) by omega,show b=vt T c by omega,Zpe];exact⟨j,g⟩
 ·rintro⟨o,g⟩;have l:=near_out h g;obtain⟨c,f,i,d⟩:=(Zm6 h l.1 b).1 ((Zpf h l.1 b).1 g);rcases d with d|d
  ·refine⟨c,f,?_⟩;unfold ek;rw[i,<- d];exact Prod.ext (by show a=min a b;omega) (by show b=max a b;omega)
  ·refine⟨pv c,by unfold pv;omega,?_⟩;unfold ek;have e:nx (pv c)=c:=by unfold nx pv;omega
   rw[e,i,<- d];exact Prod.ext (by show a=min b a;omega) (by show b=max b a;omega)
theorem EdgesIs.mem(h:Surf N T)(hL:EdgesIs T L)(a b:Int):(a,b)∈L↔a<b/\near T a b=true:=by rw[hL.2,ek_near h]
theorem EdgesIs.nodup(hL:EdgesIs T L):L.Nodup:=hL.1.imp fun {x y} h e=>by subst e;unfold ltE at h;omega
