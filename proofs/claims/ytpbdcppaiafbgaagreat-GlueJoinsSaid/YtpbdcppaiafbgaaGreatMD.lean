/- Walks: certify's mirrored; what the library's sorts leave. -/
import Derived.Test.YtpbdcppaiafbgaaGreatMC
import Derived.Test.YtpbdcppaiafbgaaGreatLay
set_option maxRecDepth 100000
set_option maxHeartbeats 8000000
namespace Go.Words
open Go Go.RowKit Go.Sort
theorem Zgt{α:Type}[Inhabited α](enc:α->Value){w:World}{g off n:Nat}{os:Array Obj}(d:Array α):w.grownBy (grow (putRow enc (Sort.ahead w n) g off d) os) (some g):=by
 refine⟨rfl,rfl,rfl,by simp,fun k hk hne=>?_⟩;rw[heap_grow_old _ _ (by simpa using hk)];have:g≠k:=fun e=>hne (by rw[e])
 simp[putRow,mapBlock,Sort.ahead,Array.getElem?_modify,this]
theorem Zog{α:Type}[Inhabited α](enc:α->Value){w:World}{g n:Nat}{os:Array Obj}{cur:Array Value}{e:TypeId}{fr:Nat×Nat}(d:Array α)(hb:w.heap[g]? = some (.cells cur e fr)) :
  (grow (putRow enc (Sort.ahead w n) g 0 d) os).heap[g]? = some (.cells (putCells enc 0 d cur) e fr):=by
 have a:g<w.heap.size:=(Array.getElem?_eq_some_iff.1 hb).1;rw[heap_grow_old _ _ (by simpa using a)];simp[putRow,mapBlock,Sort.ahead,Array.getElem?_modify,hb,onCells]
theorem putCells_all{α:Type}[Inhabited α](enc:α->Value)(d:Array α)(cur:Array Value)(h:cur.size=d.size):putCells enc 0 d cur=(d.toList.map enc).toArray:=by
 apply Array.ext
 ·simp[putCells,h]
 ·intro i a b;have hi:i<d.size:=by simp[putCells,h]at a;exact a
  simp[putCells,hi]
theorem Bk.sorted{α:Type}[Inhabited α](enc:α->Value){w:World}{g n:Nat}{os:Array Obj}{e:TypeId}{cs:List Value}(d:Array α)(hb:Bk w g e cs)(h:cs.length=d.size):Bk (grow (putRow enc (Sort.ahead w n) g 0 d) os) g e (d.toList.map enc):=by
 have:=Zog enc (n:=n) (os:=os) d hb;rw[putCells_all enc d cs.toArray (by simpa using h)]at this;exact this
end Go.Words
namespace Go.Mesh
def tri3(t:T3):List Int:=[t.1,t.2.1,t.2.2]
def Zd0(t:T3):List Int:=(tri3 t).mergeSort fun x y=>decide (x<=y)
def Zj1(t:T3):T3:=((Zd0 t).getD 0 0,(Zd0 t).getD 1 0,(Zd0 t).getD 2 0)
theorem Zv9(t:T3):(Zd0 t).length=3:=by unfold Zd0;rw[List.length_mergeSort];rfl
theorem Znj(t:T3):Zd0 t=tri3 (Zj1 t):=by
 have h:=Zv9 t;unfold Zj1 tri3
 match hl:Zd0 t,h with
 | [a,b,c],_=>rfl
theorem sorted3_mem(t:T3)(x:Int):x∈Zd0 t↔x∈tri3 t:=(List.mergeSort_perm _ _).mem_iff
end Go.Mesh
namespace Go.Proofs.YtpbdcppaiafbgaaGreat
open Go Go.RowKit Go.Words Go.Mesh Go.Shelf Go.Sort
theorem Zsk(t:T3)(w:World) :
  Calls Tryz.prog 166 #[enc3 t] w fun e w'=>(∃gk,e=.returned (.slice (some ⟨gk,0,none⟩) [Zj1 t].length [Zj1 t].length)/\Bk w' gk 56 (Zal [Zj1 t]))/\RowKit.Below w.heap.size w w':=by
 have a:=Znj t;obtain⟨b,c,d⟩:=t;generalize Q:Zj1 (b,c,d)=y at *;obtain⟨B,C,D⟩:=y;have E:=((zr w.heap.size w).alloc zl (.cells #[.int .i64 b,.int .i64 c,.int .i64 d] 57)).alloc (by simp) (.cells #[.int .i64 b,.int .i64 c,.int .i64 d] 57);have f:=Bk.new' (n:=w.heap.size+1) (w:=w.alloc (.cells #[.int .i64 b,.int .i64 c,.int .i64 d] 57)) 57 [.int .i64 b,.int .i64 c,.int .i64 d] (by simp);have A:Holds (Value.int .i64) ((w.alloc (.cells #[.int .i64 b,.int .i64 c,.int .i64 d] 57)).alloc (.cells #[.int .i64 b,.int .i64 c,.int .i64 d] 57)) (w.heap.size+1) 0 (tri3 (b,c,d)).toArray:=by
  intro j H;have M:j<3:=by simpa[tri3]using H
  rw[Nat.zero_add];refine⟨?_,f.frozen j⟩;rw[f.cell];have F:j=0\/j=1\/j=2:=by omega
  rcases F with rfl|rfl|rfl<;>rfl
 have k:=Any.slices_Sort_int Tryz.sortInts (w.heap.size+1) 0 3 (tri3 (b,c,d)) _ A (by simp) (by simp[tri3])
 change Calls Tryz.prog 167 #[.slice (some ⟨w.heap.size+1,0,none⟩) 3 3] _ _ at k
 change Zd0 (b,c,d)=[B,C,D]at a
 have l:=fun n os=>f.sorted (Value.int .i64) (n:=n) (os:=os) (Zd0 (b,c,d)).toArray (by rw[List.size_toArray,Zv9];rfl)
 have o:=fun n os=>Zgt (Value.int .i64) (w:=((w.alloc (.cells #[.int .i64 b,.int .i64 c,.int .i64 d] 57)).alloc (.cells #[.int .i64 b,.int .i64 c,.int .i64 d] 57))) (g:=w.heap.size+1) (off:=0) (n:=n) (os:=os) (Zd0 (b,c,d)).toArray
 unfold Zd0 at l o a;generalize ((tri3 (b,c,d)).mergeSort fun x y=>decide (x<=y))=R at *;show Calls Tryz.prog 166 #[.agg #[.int .i64 b,.int .i64 c,.int .i64 d]] w _;obtain⟨L,G,p,v,z,h⟩:=zz6 A f k l o a;clear A f k l o a;go_enter Tryz.func166,Tryz.ntmps166;go_wp2_with fail;refine p.out.mono ?_;rintro e s ⟨rfl,n,os,u⟩;have i:=v.out n os;have r:=z.out n os;rw[<- u]at i r;clear u;rw[h.out]at i;have m:=E.grown r (by simp;omega) (fun q hq=>by injection hq with hq;omega);have I:=m.size;have N:s.cell? ⟨w.heap.size+1,0,none⟩=some (.int .i64 B):=i.cell 0;have O:s.cell? ⟨w.heap.size+1,1,none⟩=some (.int .i64 C):=i.cell 1;have P:s.cell? ⟨w.heap.size+1,2,none⟩=some (.int .i64 D):=i.cell 2;obtain⟨J,K⟩:=zz2 i r;clear i r;go_wp2;go_ret;exact⟨⟨_,rfl,Bk.new s 56 (Zal [(B,C,D)])⟩,m.alloc I _⟩
theorem sort3_ok{N:Int}{T:List T3}(hp:Za6 N T):∀t∈T,∀x∈[Zj1 t],ok3 x:=by
 intro t d x c;obtain⟨f,g,h,e⟩:=hp;obtain⟨⟨i,j⟩,⟨k,l⟩,⟨m,n⟩⟩:=e t d;have c:x=Zj1 t:=by simpa using c
 subst c;have a:∀y∈tri3 (Zj1 t),I64 y:=by
  intro y b;rw[<- Znj,sorted3_mem]at b;unfold tri3 at b;simp only[List.mem_cons,List.not_mem_nil,or_false]at b;unfold I64;rcases b with rfl|rfl|rfl<;>omega
 exact⟨a _ (by simp[tri3]),a _ (by simp[tri3]),a _ (by simp[tri3])⟩
theorem Zw0(v:Value)(N:Int)(T:List T3)(w:World){B:Nat}(hB0:B<=w.heap.size)(h:Sl 3 RTri w B v T)(hp:Za6 N T) :
  Calls Tryz.prog 148 #[.agg #[.int .i64 N,v]] w fun e w'=>(∃d,e=.returned d/\Wits w' w.heap.size d 4 (T.flatMap fun t=>[Zj1 t]).Nodup)/\RowKit.Below w.heap.size w w':=by
 have n:=fun w hB h=>Zvq 166 (.inr rfl) 4 (fun t=>[Zj1 t]) v N T w (B:=B) hB h hp.2.2.1 (fun t w _=>Zsk t w) (fun t=>by simp) (sort3_ok hp)
 obtain⟨A,l,rfl,s⟩:=h.form;have a:=(zr w.heap.size w).alloc zl (.cells #[.int .i64 N,.slice A T.length l] 24);clear hp;obtain⟨r,f⟩:=zz2 h n;clear h n;go_enter Tryz.func148,Tryz.ntmps148;go_wp2_with fail;refine(f.out _ (by simp;omega) (r.out.below zaaq (a.mono hB0))).mono ?_;rintro e u ⟨⟨d,rfl,L,b,o,p,q⟩,m⟩;have c:=zapq a m a.size;have b:=zalq b a.size;obtain⟨g,i,j,k⟩:=zz4 b o p q;clear b o p q;go_wp2;go_ret;exact⟨⟨_,rfl,L,g.out,i.out,j.out,k.out⟩,c⟩
end Go.Proofs.YtpbdcppaiafbgaaGreat
namespace Go.Mesh
def cmpI(x y:Int):Int:=if x<y then -1 else if y<x then 1 else 0
def cmpW(x y:T3):Int:=if cmpI x.2.2 y.2.2≠0 then cmpI x.2.2 y.2.2 else cmpI x.2.1 y.2.1
end Go.Mesh
namespace Go.Proofs.YtpbdcppaiafbgaaGreat
open Go Go.RowKit Go.Words Go.Mesh Go.Shelf Go.Sort
theorem Zhf(x y:Int)(w:World):Calls Tryz.prog 112 #[.int .i64 x,.int .i64 y] w fun e w'=>e=.returned (.int .i64 (cmpI x y))/\w'=w:=by
 unfold cmpI;rcases(show x<y\/(¬x<y/\y<x)\/(¬x<y/\¬y<x) by omega)with h|⟨h,a⟩|⟨h,a⟩
 ·rw[if_pos h];go_enter Tryz.func112,Tryz.ntmps112;go_wp2;go_ret;exact⟨rfl,rfl⟩
 ·rw[if_neg h,if_pos a];go_enter Tryz.func112,Tryz.ntmps112;go_wp2;go_ret;exact⟨rfl,rfl⟩
 ·rw[if_neg h,if_neg a];go_enter Tryz.func112,Tryz.ntmps112;go_wp2;go_ret;exact⟨rfl,rfl⟩
theorem or_calls(g:Nat)(x y:Int)(w:World)(h0:w.cell? ⟨g,0,none⟩=some (.int .i64 x))(h1:w.cell? ⟨g,1,none⟩=some (.int .i64 y)) :
  Calls Tryz.prog 111 #[.slice (some ⟨g,0,none⟩) 2 2] w fun e w'=>e=.returned (.int .i64 (if x≠0 then x else y))/\w'=w:=by
 by_cases a:x=0
 ·subst a;by_cases b:y=0
  ·subst b;rw[if_neg (by simp)];go_enter Tryz.func111,Tryz.ntmps111;go_wp2;refine wp_loop_rounds 3 ?_;rw[rounds_succ];go_wp2;rw[rounds_succ];go_wp2;rw[rounds_succ];go_wp2;go_ret;exact⟨rfl,rfl⟩
  ·rw[if_neg (by simp)];go_enter Tryz.func111,Tryz.ntmps111;go_wp2;refine wp_loop_rounds 3 ?_;rw[rounds_succ];go_wp2;rw[rounds_succ];go_wp2;go_ret;exact⟨rfl,rfl⟩
 ·rw[if_pos a];go_enter Tryz.func111,Tryz.ntmps111;go_wp2;refine wp_loop_rounds 3 ?_;rw[rounds_succ];go_wp2;go_ret;exact⟨rfl,rfl⟩
theorem order_calls(x y:T3)(W:World):Calls Tryz.prog 152 #[enc3 x,enc3 y] W fun e w'=>e=.returned (.int .i64 (cmpW x y))/\∃q os',w'=grow (W.drewN q) os':=by
 obtain⟨k,i,b⟩:=x;obtain⟨l,j,f⟩:=y;have p:cmpW (k,i,b) (l,j,f)=if cmpI b f≠0 then cmpI b f else cmpI i j:=rfl
 have C:=fun w=>Zhf b f w
 have D:=fun w=>Zhf i j w
 rw[p];generalize cmpI b f=c at *;generalize cmpI i j=d at *;have E:=fun g w h0 h1=>or_calls g c d w h0 h1
 generalize (if c≠0 then c else d)=r at *;show Calls Tryz.prog 152 #[.agg #[.int .i64 k,.int .i64 i,.int .i64 b],.agg #[.int .i64 l,.int .i64 j,.int .i64 f]] W _;obtain⟨v,z,A,H⟩:=zz4 C D E p;clear C D E p;go_enter Tryz.func152,Tryz.ntmps152;go_wp2_with(refine Canon.wp_region_plan [6,8] (· < W.heap.size+2) [0,1,2,3,5,6,7,8] [[[4],[9],[10],[11],[12]]] mixed (by kernel_rfl) (zF ⟨?_,fun _ h=>by cases h⟩));refine Canon.seg_begin ?_;simp only[zm,zg];go_wp2_with fail;refine(v.out _).mono ?_;rintro e G ⟨rfl,rfl⟩;have F:Canon.KeepU (· < W.heap.size+2) ((W.alloc (.cells #[.int .i64 k,.int .i64 i,.int .i64 b] 48)).alloc (.cells #[.int .i64 l,.int .i64 j,.int .i64 f] 48)).drew ((W.alloc (.cells #[.int .i64 k,.int .i64 i,.int .i64 b] 48)).alloc (.cells #[.int .i64 l,.int .i64 j,.int .i64 f] 48)).drew:=zacq (zr _ _);have u:Canon.KeepU (· < W.heap.size+2) ((W.alloc (.cells #[.int .i64 k,.int .i64 i,.int .i64 b] 48)).alloc (.cells #[.int .i64 l,.int .i64 j,.int .i64 f] 48)).drew (((W.alloc (.cells #[.int .i64 k,.int .i64 i,.int .i64 b] 48)).alloc (.cells #[.int .i64 l,.int .i64 j,.int .i64 f] 48)).alloc (.cells #[.int .i64 c,.int .i64 d] 3)).drew:=zacq (RowKit.Below.alloc (B:=W.heap.size+2) (a:=((W.alloc (.cells #[.int .i64 k,.int .i64 i,.int .i64 b] 48)).alloc (.cells #[.int .i64 l,.int .i64 j,.int .i64 f] 48)).drew) (zr _ _) (by simp) (.cells #[.int .i64 c,.int .i64 d] 3));have s:=(Bk.new' (n:=W.heap.size+2) (w:=(W.alloc (.cells #[.int .i64 k,.int .i64 i,.int .i64 b] 48)).alloc (.cells #[.int .i64 l,.int .i64 j,.int .i64 f] 48)) 3 [.int .i64 c,.int .i64 d] (by simp)).drew;obtain⟨t,m,o⟩:=zz3 F u s;clear F u s;go_wp2_with fail;refine Canon.seg_end t.out (Canon.seg_begin ?_);simp only[zm,zg];go_wp2_with fail;refine(z.out _).mono ?_;rintro e G ⟨rfl,rfl⟩;go_wp2_with fail;refine Canon.seg_end t.out (Canon.seg_begin ?_);simp only[zm,zg];go_wp2_with fail;refine Canon.seg_end m.out (Canon.seg_begin ?_);simp only[zm,zg];go_wp2_with fail;refine(A.out _ _ ?_ ?_).mono ?_
 ·exact o.out.cell 0
 ·exact o.out.cell 1
 rintro e G ⟨rfl,rfl⟩;go_wp2_with fail;refine Canon.seg_end m.out (Canon.seg_begin ?_);simp only[zm,zg];go_wp2_with fail;refine Canon.seg_end m.out (Canon.seg_done (by rfl) (zF ⟨.inl ⟨_,rfl,by simp,by simp⟩,zF ⟨.inl ⟨_,rfl,by simp,by simp⟩,fun _ h=>by cases h⟩⟩) ?_);go_wp2_with fail;go_ret;exact⟨rfl,1,#[.cells #[.int .i64 k,.int .i64 i,.int .i64 b] 48,.cells #[.int .i64 l,.int .i64 j,.int .i64 f] 48,.cells #[.int .i64 c,.int .i64 d] 3],by rw[alloc_eq_grow,alloc_eq_grow,alloc_eq_grow,grow_grow,grow_grow];rfl⟩
end Go.Proofs.YtpbdcppaiafbgaaGreat
namespace Go.Words
open Go Go.RowKit Go.Sort
theorem Zq6{w:World}{base g n cap size m:Nat}{e:TypeId}{xs:List Value}{os:Array Obj}(F:Array Value)(h:w.ownsRow base e size (.slice (some ⟨g,0,none⟩) n cap) n xs)(hF:F.size=n*size) :
  (grow (putRow id (Sort.ahead w m) g 0 F) os).ownsRow base e size (.slice (some ⟨g,0,none⟩) n cap) n F.toList:=by
 rcases h.2 with⟨k,_⟩|⟨r,i,b,a,l,p,f,o,c,_⟩
 ·cases k
 injection a with a _ hc';injection a with a;injection a with hg';subst hg';subst hc';refine⟨by simpa using hF,.inr ⟨g,cap,_,rfl,l,Zog id F p,f,o,by simp[putCells,c],?_⟩⟩;apply List.ext_getElem?;intro j;have q:n*size<=cap*size:=Nat.mul_le_mul_right _ f;by_cases d:j<n*size
 ·rw[List.getElem?_take_of_lt d,Array.getElem?_toList];simp[putCells,hF,d,show j<b.size by omega]
 ·rw[List.getElem?_take_eq_none (by omega),List.getElem?_eq_none (by simp;omega)]
end Go.Words
namespace Go.Mesh
theorem Zsr(x y:Int):cmpI x y<0↔x<y:=by
 unfold cmpI;by_cases a:x<y
 ·simp[a]
 ·by_cases b:y<x<;>simp[a,b]
theorem cmpI_zero(x y:Int):cmpI x y=0↔x=y:=by
 unfold cmpI;by_cases a:x<y
 ·rw[if_pos a];omega
 ·rw[if_neg a];by_cases b:y<x
  ·rw[if_pos b];omega
  ·rw[if_neg b];omega
theorem cmpW_neg(x y:T3):cmpW x y<0↔x.2.2<y.2.2\/(x.2.2=y.2.2/\x.2.1<y.2.1):=by
 have a:=Zsr x.2.2 y.2.2;have b:=Zsr x.2.1 y.2.1;have c:=cmpI_zero x.2.2 y.2.2;unfold cmpW
 split<;>omega
end Go.Mesh
namespace Go.Proofs.YtpbdcppaiafbgaaGreat
open Go Go.RowKit Go.Words Go.Mesh Go.Shelf Go.Sort Go.Lib
def encW(x:T3):List Value:=[.int .i64 x.1,.int .i64 x.2.1,.int .i64 x.2.2]
theorem ltW(x y:T3):ltOf cmpW x y=decide (x.2.2<y.2.2\/(x.2.2=y.2.2/\x.2.1<y.2.1)):=by
 unfold ltOf;rw[Bool.eq_iff_iff,decide_eq_true_eq,decide_eq_true_eq];exact cmpW_neg x y
theorem swoW:SWO (ltOf cmpW) where
 irrefl x:=by rw[ltW];simp
 trans x y z h1 h2:=by rw[ltW]at *;simp at *;omega
 ntrans x y z h1 h2:=by rw[ltW]at *;simp at *;omega
theorem Zui(L:List T3):flatK encW 3 L.toArray=(Zal L).toArray:=by
 apply Array.ext
 ·simp[Za2]
 ·intro j d k;have e:j<L.length*3:=by simpa using d
  have f:j/3<L.length:=by omega
  rw[show(flatK encW 3 L.toArray)[j]=(flatK encW 3 L.toArray)[j]! from(getElem!_pos (flatK encW 3 L.toArray) j d).symm,get_flatK _ _ _ _ (by simpa using e)];have i:L.toArray[j/3]! = L[j/3]:=by simp[getElem!_pos,f]
  rw[i];have g:=Zeh L (j/3) L[j/3] (zG f);have c:=congrArg (fun l:List Value=>l[j%3]?) g;rw[List.getElem?_take,if_pos (by omega),List.getElem?_drop,show j/3*3+j%3=j from by omega]at c;have h:(Zal L)[j]? = some ((Zal L).toArray[j]):=by
   rw[zG (by rw[Za2];exact e)];simp
  rw[h]at c;have a:(encW L[j/3])[j%3]? = some ((Zal L).toArray[j]):=c.symm;have b:j%3<(encW L[j/3]).length:=by unfold encW;simp;omega
  rw[zG b]at a;injection a with a;rw[getElem!_pos (encW L[j/3]) (j%3) b,a]
theorem Zeu(L:List T3)(g cap base:Nat)(w:World)(h:w.ownsRow base 48 3 (.slice (some ⟨g,0,none⟩) L.length cap) L.length (Zal L))(hl:L.length<=603979776) :
  Calls Tryz.prog 151 #[.slice (some ⟨g,0,none⟩) L.length cap,.func (.func 152) #[] #[]] w fun e k =>
   e=.returned (.tuple #[])/\(∃L':List T3,L'.Perm L/\L'.length=L.length/\k.ownsRow base 48 3 (.slice (some ⟨g,0,none⟩) L.length cap) L.length (Zal L'))/\w.grownBy k (some g):=by
 have eg:∀args w,(callFunc 152 args).run Tryz.prog w=.ok (.enter 152 args) w:=enters_of Tryz.func152 (by kernel_rfl) rfl;have i:CmpLays Tryz.prog 152 #[] encW 3 cmpW g 0 L.toArray.size w:=fun m os dk _ x y=>order_calls x y _
 have r:HoldsK encW 3 w g 0 L.toArray:=by
  unfold HoldsK;rw[Zui];intro j c;have c:j<L.length*3:=by simpa[Za2]using c
  rw[Nat.zero_add];refine⟨?_,h.frozenAt j⟩;rw[h.cellAt j c,zG (by rw[Za2];exact c)];simp[getElem!_pos,Za2,c]
 have b:=AnyQ.slices_SortFunc Tryz.sortWit 3 Tryz.isAgg48 Tryz.sizeOf48 encW (fun _=>rfl) (fun x v hv=>by simp[encW]at hv;rcases hv with rfl|rfl|rfl<;>rfl) cmpW swoW 152 #[] g 0 cap L.toArray w eg i r (h.lt g rfl).2 (by simp;omega)
 change Calls Tryz.prog 151 _ _ _ at b
 refine b.mono ?_;rintro e k ⟨rfl,a,n,os,o,_,rfl⟩;have d:a.size=L.length:=by have:=o.1;simpa using this
 have f:a.toList.Perm L:=by
  have:=o.2.2;have p:a.extract 0 L.toArray.size=a:=by rw[show L.toArray.size=a.size from by simp[d]];simp
  have q:L.toArray.extract 0 L.toArray.size=L.toArray:=by simp
  rw[p,q]at this;simpa using this
 refine⟨rfl,⟨a.toList,f,by simpa using d,?_⟩,Zgt id _⟩;have l:flatK encW 3 a=(Zal a.toList).toArray:=by rw[<- Zui]
 have:=Zq6 (m:=n) (os:=os) (flatK encW 3 a) h (by simp[d]);rw[l]at this;unfold sortWorldK putRowK;rw[l];simpa using this
end Go.Proofs.YtpbdcppaiafbgaaGreat
namespace Go.Words
open Go Go.RowKit
theorem Zbx{w:World}{base e size n:Nat}{v:Value}{xs:List Value}(h:w.ownsRow base e size v n xs)(hn:0<n):∃g a,v=.slice (some ⟨g,0,none⟩) n a/\base<=g/\g<w.heap.size:=by
 rcases h.2 with⟨_,i⟩|⟨g,a,f,d,b,c,_⟩
 ·omega
 ·exact⟨g,a,d,b,(Array.getElem?_eq_some_iff.1 c).1⟩
end Go.Words
namespace Go.Mesh
def Zxd(n:Nat)(T:List T3):Nat->Prop
 | 0=>Za6 n T
 | 1=>∀t∈T,Za5 t
 | 2=>(T.flatMap Zoj).Nodup
 | 3=>(T.flatMap fun t=>[Zj1 t]).Nodup
 | 4=>∀u:Nat,u<n->∃t∈T,HasV t u
 | _=>∀u:Nat,u<n->Zfq T u
def Zew(N:Int)(T:List T3)(k:Nat):Prop:=∃n:Nat,N=n/\∀j,j<k->Zxd n T j
theorem goodTo_one{N:Int}{T:List T3}:Za6 N T↔Zew N T 1:=by
 constructor
 ·intro h;refine⟨N.toNat,by have:=h.1;omega,fun j hj=>?_⟩;have:j=0:=by omega
  subst this;show Za6 (N.toNat:Int) T
  rwa [Int.toNat_of_nonneg h.1]
 ·rintro⟨n,rfl,h⟩;exact h 0 (by omega)
theorem Zh5{n k:Nat}{T:List T3}(h:Zew (n:Int) T k):Zxd n T k↔Zew (n:Int) T (k+1):=by
 obtain⟨m,f,h⟩:=h;have:m=n:=by omega
 subst this;constructor
 ·intro c;refine⟨m,rfl,fun j hj=>?_⟩;by_cases a:j=k
  ·subst a;exact c
  ·exact h j (by omega)
 ·rintro⟨d,e,b⟩;have:d=m:=by omega
  subst this;exact b k (by omega)
def Cert(N:Int)(T:List T3):Prop:=Zew N T 6
theorem Zqj{N:Int}{T:List T3}(h:Cert N T){k:Nat}(hk:k<=6):Zew N T k:=by
 obtain⟨n,e,h⟩:=h;exact⟨n,e,fun j hj=>h j (by omega)⟩
end Go.Mesh
namespace Go.Proofs.YtpbdcppaiafbgaaGreat
open Go Go.RowKit Go.Words Go.Mesh Go.Shelf Go.Sort Go.Lib
def kindFs:List Value:=[.func (.func 145) #[] #[],.func (.func 146) #[] #[],.func (.func 147) #[] #[],.func (.func 148) #[] #[],.func (.func 149) #[] #[],.func (.func 150) #[] #[]]
theorem Zcu(v:Value)(N:Int)(T:List T3)(w:World){B:Nat}(hB0:B<=w.heap.size)(h:Sl 3 RTri w B v T)(hN:I64 N) :
  Calls Tryz.prog 120 #[.agg #[.int .i64 N,v]] w fun e w'=>(∃v' L,e=.returned v'/\w'.ownsRow w.heap.size 48 3 v' L.length (Zal L)/\(L=[]↔Cert N T)/\(∀x∈L,1<=x.1)/\L.length<=603979776)/\RowKit.Below w.heap.size w w':=by
 obtain⟨A,ae,rfl,ar⟩:=h.form;have o:=(Bk.new w 24 [.int .i64 N,.slice A T.length ae]).alloc (.cells kindFs.toArray 161);have D:=Bk.new' (n:=w.heap.size+1) (w:=w.alloc (.cells #[.int .i64 N,.slice A T.length ae] 24)) 161 kindFs (by simp);have ao:=((zr w.heap.size w).alloc zl (.cells #[.int .i64 N,.slice A T.length ae] 24)).alloc (by simp) (.cells kindFs.toArray 161);unfold kindFs at *;obtain⟨Hh,p,z⟩:=zz3 h o D;clear h o D;go_enter Tryz.func120,Tryz.ntmps120;go_wp2;go_loopw[8] (fun i wr=>∃(k:Nat),k<=6/\i=.int .i64 k/\Bk wr w.heap.size 24 [.int .i64 N,.slice A T.length ae]/\Bk wr (w.heap.size+1) 161 kindFs/\RowKit.Below w.heap.size w wr/\(0<k->Zew N T k))
  (fun i _=>6-(intOf i).toNat)
 case atStart=>exact⟨0,by omega,rfl,p.out,z.out,ao,by omega⟩
 case round =>
  obtain⟨k,hk,rfl,o,D,P,M⟩:=hrel;have hz:=P.size;have ad:=D.lt;have a5:=o.lt;have c0:wr.cell? ⟨w.heap.size,0,none⟩=some (.int .i64 N):=o.cell 0;have c1:wr.cell? ⟨w.heap.size,1,none⟩=some (.slice A T.length ae):=o.cell 1;have y:=Hh.out.below zaaq (P.mono hB0);have ac:=Nat.le_trans hB0 hz;have O:=D.cell;unfold kindFs at O;have ap:k=0\/k=1\/k=2\/k=3\/k=4\/k=5\/k=6:=by omega
  rcases ap with rfl|rfl|rfl|rfl|rfl|rfl|rfl
  ·have V:=Zoh _ N T wr ac y hN;have H:=@goodTo_one N T;clear M;have f0:wr.cell? ⟨w.heap.size+1,0,none⟩=some (.func (.func 145) #[] #[]):=O 0;obtain⟨p,z,aa,Q,J,a3⟩:=zz6 o D O V H y;clear o D O V H y;go_wp2_with fail;refine Q.out.mono ?_;rintro e w1 ⟨⟨v',rfl,L,j,Y,Z,o4⟩,t⟩;have u:L=[]↔Zew N T 1:=Y.trans J.out;clear Y;have E:∀x∈L,1<=x.1:=fun x hx=>by rw[Z x hx];omega
   clear Z;have a:=p.out.below t a5;have c:=z.out.below t ad;have b:=zapq P t hz;have ah:=b.size;rcases L with _|⟨x0,L⟩
   ·obtain⟨A5,s,rfl,a2⟩:=zaeq j;simp only[List.length_nil]at *;obtain⟨S,F,G,f,l⟩:=zz5 j E u a c;clear j E u a c;go_wp2;exact⟨⟨1,by omega,by simp,f.out,l.out,b,fun _=>G.out.1 trivial⟩,by simp[intOf]⟩
   ·obtain⟨g5,s,rfl,af,ag⟩:=Zbx j (by simp);have I:=Zeu (x0::L) g5 s w.heap.size w1 (zalq j hz) o4;have oN:¬Zew N T 1:=fun h9=>by have:=u.2 h9;cases this
    simp only[List.length_cons]at *;obtain⟨S,F,G,U,K,f,l⟩:=zz7 j E u oN I a c;clear j E u oN I a c;go_wp2_with fail;refine K.out.mono ?_;rintro e w2 ⟨rfl,⟨L',m,d,X⟩,W⟩;have C:=b.grown W (by omega) (fun q hq=>by injection hq with hq;omega);obtain⟨R,r⟩:=zz2 X m;clear X m;go_wp2;go_ret;refine⟨⟨_,L',rfl,by rw[d];exact R.out,⟨fun h9=>?_,fun h9=>absurd (Zqj h9 (by omega)) U.out⟩,fun x hx=>F.out x (r.out.mem_iff.1 hx),by rw[d];exact o4⟩,C⟩;rw[h9]at d;simp at d
  ·obtain⟨n,rfl,g⟩:=M (by omega);have V:=loop_calls _ n T wr ac y (g 0 (by omega)).2.2.1;have H:=Zh5 (k:=1) ⟨n,rfl,g⟩;clear g;have f0:wr.cell? ⟨w.heap.size+1,1,none⟩=some (.func (.func 146) #[] #[]):=O 1;obtain⟨p,z,aa,Q,J,a3⟩:=zz6 o D O V H y;clear o D O V H y;go_wp2_with fail;refine Q.out.mono ?_;rintro e w1 ⟨⟨v',rfl,L,j,Y,Z,o4⟩,t⟩;have u:L=[]↔Zew (n:Int) T 2:=Y.trans J.out;clear Y;have E:∀x∈L,1<=x.1:=fun x hx=>by rw[Z x hx];omega
   clear Z;have a:=p.out.below t a5;have c:=z.out.below t ad;have b:=zapq P t hz;have ah:=b.size;rcases L with _|⟨x0,L⟩
   ·obtain⟨A5,s,rfl,a2⟩:=zaeq j;simp only[List.length_nil]at *;obtain⟨S,F,G,f,l⟩:=zz5 j E u a c;clear j E u a c;go_wp2;exact⟨⟨2,by omega,by simp,f.out,l.out,b,fun _=>G.out.1 trivial⟩,by simp[intOf]⟩
   ·obtain⟨g5,s,rfl,af,ag⟩:=Zbx j (by simp);have I:=Zeu (x0::L) g5 s w.heap.size w1 (zalq j hz) o4;have oN:¬Zew (n:Int) T 2:=fun h9=>by have:=u.2 h9;cases this
    simp only[List.length_cons]at *;obtain⟨S,F,G,U,K,f,l⟩:=zz7 j E u oN I a c;clear j E u oN I a c;go_wp2_with fail;refine K.out.mono ?_;rintro e w2 ⟨rfl,⟨L',m,d,X⟩,W⟩;have C:=b.grown W (by omega) (fun q hq=>by injection hq with hq;omega);obtain⟨R,r⟩:=zz2 X m;clear X m;go_wp2;go_ret;refine⟨⟨_,L',rfl,by rw[d];exact R.out,⟨fun h9=>?_,fun h9=>absurd (Zqj h9 (by omega)) U.out⟩,fun x hx=>F.out x (r.out.mem_iff.1 hx),by rw[d];exact o4⟩,C⟩;rw[h9]at d;simp at d
  ·obtain⟨n,rfl,g⟩:=M (by omega);have V:=twice_calls _ n T wr ac y (g 0 (by omega));have H:=Zh5 (k:=2) ⟨n,rfl,g⟩;clear g;have f0:wr.cell? ⟨w.heap.size+1,2,none⟩=some (.func (.func 147) #[] #[]):=O 2;obtain⟨p,z,aa,Q,J,a3⟩:=zz6 o D O V H y;clear o D O V H y;go_wp2_with fail;refine Q.out.mono ?_;rintro e w1 ⟨⟨v',rfl,L,j,Y,Z,o4⟩,t⟩;have u:L=[]↔Zew (n:Int) T 3:=Y.trans J.out;clear Y;have E:∀x∈L,1<=x.1:=fun x hx=>by rw[Z x hx];omega
   clear Z;have a:=p.out.below t a5;have c:=z.out.below t ad;have b:=zapq P t hz;have ah:=b.size;rcases L with _|⟨x0,L⟩
   ·obtain⟨A5,s,rfl,a2⟩:=zaeq j;simp only[List.length_nil]at *;obtain⟨S,F,G,f,l⟩:=zz5 j E u a c;clear j E u a c;go_wp2;exact⟨⟨3,by omega,by simp,f.out,l.out,b,fun _=>G.out.1 trivial⟩,by simp[intOf]⟩
   ·obtain⟨g5,s,rfl,af,ag⟩:=Zbx j (by simp);have I:=Zeu (x0::L) g5 s w.heap.size w1 (zalq j hz) o4;have oN:¬Zew (n:Int) T 3:=fun h9=>by have:=u.2 h9;cases this
    simp only[List.length_cons]at *;obtain⟨S,F,G,U,K,f,l⟩:=zz7 j E u oN I a c;clear j E u oN I a c;go_wp2_with fail;refine K.out.mono ?_;rintro e w2 ⟨rfl,⟨L',m,d,X⟩,W⟩;have C:=b.grown W (by omega) (fun q hq=>by injection hq with hq;omega);obtain⟨R,r⟩:=zz2 X m;clear X m;go_wp2;go_ret;refine⟨⟨_,L',rfl,by rw[d];exact R.out,⟨fun h9=>?_,fun h9=>absurd (Zqj h9 (by omega)) U.out⟩,fun x hx=>F.out x (r.out.mem_iff.1 hx),by rw[d];exact o4⟩,C⟩;rw[h9]at d;simp at d
  ·obtain⟨n,rfl,g⟩:=M (by omega);have V:=Zw0 _ n T wr ac y (g 0 (by omega));have H:=Zh5 (k:=3) ⟨n,rfl,g⟩;clear g;have f0:wr.cell? ⟨w.heap.size+1,3,none⟩=some (.func (.func 148) #[] #[]):=O 3;obtain⟨p,z,aa,Q,J,a3⟩:=zz6 o D O V H y;clear o D O V H y;go_wp2_with fail;refine Q.out.mono ?_;rintro e w1 ⟨⟨v',rfl,L,j,Y,Z,o4⟩,t⟩;have u:L=[]↔Zew (n:Int) T 4:=Y.trans J.out;clear Y;have E:∀x∈L,1<=x.1:=fun x hx=>by rw[Z x hx];omega
   clear Z;have a:=p.out.below t a5;have c:=z.out.below t ad;have b:=zapq P t hz;have ah:=b.size;rcases L with _|⟨x0,L⟩
   ·obtain⟨A5,s,rfl,a2⟩:=zaeq j;simp only[List.length_nil]at *;obtain⟨S,F,G,f,l⟩:=zz5 j E u a c;clear j E u a c;go_wp2;exact⟨⟨4,by omega,by simp,f.out,l.out,b,fun _=>G.out.1 trivial⟩,by simp[intOf]⟩
   ·obtain⟨g5,s,rfl,af,ag⟩:=Zbx j (by simp);have I:=Zeu (x0::L) g5 s w.heap.size w1 (zalq j hz) o4;have oN:¬Zew (n:Int) T 4:=fun h9=>by have:=u.2 h9;cases this
    simp only[List.length_cons]at *;obtain⟨S,F,G,U,K,f,l⟩:=zz7 j E u oN I a c;clear j E u oN I a c;go_wp2_with fail;refine K.out.mono ?_;rintro e w2 ⟨rfl,⟨L',m,d,X⟩,W⟩;have C:=b.grown W (by omega) (fun q hq=>by injection hq with hq;omega);obtain⟨R,r⟩:=zz2 X m;clear X m;go_wp2;go_ret;refine⟨⟨_,L',rfl,by rw[d];exact R.out,⟨fun h9=>?_,fun h9=>absurd (Zqj h9 (by omega)) U.out⟩,fun x hx=>F.out x (r.out.mem_iff.1 hx),by rw[d];exact o4⟩,C⟩;rw[h9]at d;simp at d
  ·obtain⟨n,rfl,g⟩:=M (by omega);have V:=lonely_calls _ n T wr ac y (g 0 (by omega));have H:=Zh5 (k:=4) ⟨n,rfl,g⟩;clear g;have f0:wr.cell? ⟨w.heap.size+1,4,none⟩=some (.func (.func 149) #[] #[]):=O 4;obtain⟨p,z,aa,Q,J,a3⟩:=zz6 o D O V H y;clear o D O V H y;go_wp2_with fail;refine Q.out.mono ?_;rintro e w1 ⟨⟨v',rfl,L,j,Y,Z,o4⟩,t⟩;have u:L=[]↔Zew (n:Int) T 5:=Y.trans J.out;clear Y;have E:∀x∈L,1<=x.1:=fun x hx=>by rw[Z x hx];omega
   clear Z;have a:=p.out.below t a5;have c:=z.out.below t ad;have b:=zapq P t hz;have ah:=b.size;rcases L with _|⟨x0,L⟩
   ·obtain⟨A5,s,rfl,a2⟩:=zaeq j;simp only[List.length_nil]at *;obtain⟨S,F,G,f,l⟩:=zz5 j E u a c;clear j E u a c;go_wp2;exact⟨⟨5,by omega,by simp,f.out,l.out,b,fun _=>G.out.1 trivial⟩,by simp[intOf]⟩
   ·obtain⟨g5,s,rfl,af,ag⟩:=Zbx j (by simp);have I:=Zeu (x0::L) g5 s w.heap.size w1 (zalq j hz) o4;have oN:¬Zew (n:Int) T 5:=fun h9=>by have:=u.2 h9;cases this
    simp only[List.length_cons]at *;obtain⟨S,F,G,U,K,f,l⟩:=zz7 j E u oN I a c;clear j E u oN I a c;go_wp2_with fail;refine K.out.mono ?_;rintro e w2 ⟨rfl,⟨L',m,d,X⟩,W⟩;have C:=b.grown W (by omega) (fun q hq=>by injection hq with hq;omega);obtain⟨R,r⟩:=zz2 X m;clear X m;go_wp2;go_ret;refine⟨⟨_,L',rfl,by rw[d];exact R.out,⟨fun h9=>?_,fun h9=>absurd (Zqj h9 (by omega)) U.out⟩,fun x hx=>F.out x (r.out.mem_iff.1 hx),by rw[d];exact o4⟩,C⟩;rw[h9]at d;simp at d
  ·obtain⟨n,rfl,g⟩:=M (by omega);have V:=pinch_calls _ n T wr ac y (g 0 (by omega)) (g 1 (by omega)) (g 4 (by omega));have H:=Zh5 (k:=5) ⟨n,rfl,g⟩;clear g;have f0:wr.cell? ⟨w.heap.size+1,5,none⟩=some (.func (.func 150) #[] #[]):=O 5;obtain⟨p,z,aa,Q,J,a3⟩:=zz6 o D O V H y;clear o D O V H y;go_wp2_with fail;refine Q.out.mono ?_;rintro e w1 ⟨⟨v',rfl,L,j,Y,Z,o4⟩,t⟩;have u:L=[]↔Zew (n:Int) T 6:=Y.trans J.out;clear Y;have E:∀x∈L,1<=x.1:=fun x hx=>by rw[Z x hx];omega
   clear Z;have a:=p.out.below t a5;have c:=z.out.below t ad;have b:=zapq P t hz;have ah:=b.size;rcases L with _|⟨x0,L⟩
   ·obtain⟨A5,s,rfl,a2⟩:=zaeq j;simp only[List.length_nil]at *;obtain⟨S,F,G,f,l⟩:=zz5 j E u a c;clear j E u a c;go_wp2;exact⟨⟨6,by omega,by simp,f.out,l.out,b,fun _=>G.out.1 trivial⟩,by simp[intOf]⟩
   ·obtain⟨g5,s,rfl,af,ag⟩:=Zbx j (by simp);have I:=Zeu (x0::L) g5 s w.heap.size w1 (zalq j hz) o4;have oN:¬Zew (n:Int) T 6:=fun h9=>by have:=u.2 h9;cases this
    simp only[List.length_cons]at *;obtain⟨S,F,G,U,K,f,l⟩:=zz7 j E u oN I a c;clear j E u oN I a c;go_wp2_with fail;refine K.out.mono ?_;rintro e w2 ⟨rfl,⟨L',m,d,X⟩,W⟩;have C:=b.grown W (by omega) (fun q hq=>by injection hq with hq;omega);obtain⟨R,r⟩:=zz2 X m;clear X m;go_wp2;go_ret;refine⟨⟨_,L',rfl,by rw[d];exact R.out,⟨fun h9=>?_,fun h9=>absurd (Zqj h9 (by omega)) U.out⟩,fun x hx=>F.out x (r.out.mem_iff.1 hx),by rw[d];exact o4⟩,C⟩;rw[h9]at d;simp at d
  ·obtain⟨p,z,aa,a3,ak⟩:=zz5 o D O y M;clear o D O y M;go_wp2;go_ret;exact⟨⟨_,[],rfl,zn _ _ _ _,⟨fun _=>ak.out (by omega),fun _=>rfl⟩,by simp,by simp⟩,P⟩
theorem Ztt(v:Value)(N:Int)(T:List T3)(w:World){B:Nat}(hB0:B<=w.heap.size)(h:Sl 3 RTri w B v T)(hN:I64 N) :
  Calls Tryz.prog 75 #[.agg #[.int .i64 N,v]] w fun e w'=>(∃k a b:Int,e=.returned (.agg #[.int .i64 k,.int .i64 a,.int .i64 b])/\0<=k/\(k=0↔Cert N T)/\(k=0->a=0/\b=0))/\RowKit.Below w.heap.size w w':=by
 obtain⟨A,i,rfl,P⟩:=h.form;have o:=Bk.new' (n:=w.heap.size+1) (w:=w.alloc (.cells #[.int .i64 N,.slice A T.length i] 24)) 48 [.int .i64 0,.int .i64 0,.int .i64 0] (by simp);have j:=((zr w.heap.size w).alloc zl (.cells #[.int .i64 N,.slice A T.length i] 24)).alloc (by simp) (.cells #[.int .i64 0,.int .i64 0,.int .i64 0] 48);have I:=Zcu _ N T ((w.alloc (.cells #[.int .i64 N,.slice A T.length i] 24)).alloc (.cells #[.int .i64 0,.int .i64 0,.int .i64 0] 48)) (B:=B) (by simp;omega) (h.below zaaq (j.mono hB0)) hN;obtain⟨Y,q,C⟩:=zz3 h o I;clear h o I;go_enter Tryz.func75,Tryz.ntmps75;go_wp2_with fail;refine C.out.mono ?_;rintro e g ⟨⟨v',L,rfl,f,p,u,o4⟩,l⟩;have J:=l.size;simp only[World.size_alloc]at J;have c:=q.out.below l (by simp);have m:=zapq j l j.size;rcases L with _|⟨⟨x,y,z⟩,L⟩
 ·obtain⟨X,s,rfl,M⟩:=zaeq f;simp only[List.length_nil]at *;have O:=c.frozen;have Q:g.cell? ⟨w.heap.size+1,0,none⟩=some (.int .i64 0):=c.cell 0;have R:g.cell? ⟨w.heap.size+1,1,none⟩=some (.int .i64 0):=c.cell 1;have S:g.cell? ⟨w.heap.size+1,2,none⟩=some (.int .i64 0):=c.cell 2;obtain⟨D,r,d⟩:=zz3 f p c;clear f p c;go_wp2;refine Zbg rfl rfl (((d.out.set 0 _).set 1 _).set 2 _) Tryz.underlying48 rfl (by kernel_rfl) rfl ⟨⟨0,0,0,rfl,by omega,?_,by simp⟩,((m.setCell (by simp) _).setCell (by simp) _).setCell (by simp) _⟩;exact⟨fun _=>r.out.1 trivial,fun _=>rfl⟩
 ·have hk:=u (x,y,z) (by simp);obtain⟨t,s,rfl,V,W⟩:=Zbx f (by simp);have F:=f.cellAt 0 (by simp);have G:=f.cellAt 1 (by simp;omega);have H:=f.cellAt 2 (by simp;omega);have K:¬Cert N T:=fun h9=>by have:=p.2 h9;cases this
  simp only[List.length_cons]at *;have Z:g.cell? ⟨t,0,none⟩=some (.int .i64 x):=F;have e1:g.cell? ⟨t,1,none⟩=some (.int .i64 y):=G;have e2:g.cell? ⟨t,2,none⟩=some (.int .i64 z):=H;clear F G H;have O:=c.frozen;have Q:g.cell? ⟨w.heap.size+1,0,none⟩=some (.int .i64 0):=c.cell 0;have R:g.cell? ⟨w.heap.size+1,1,none⟩=some (.int .i64 0):=c.cell 1;have S:g.cell? ⟨w.heap.size+1,2,none⟩=some (.int .i64 0):=c.cell 2;obtain⟨D,r,U,E,d⟩:=zz5 f p u K c;clear f p u K c;go_wp2;refine Zbg rfl rfl (((d.out.set 0 _).set 1 _).set 2 _) Tryz.underlying48 rfl (by kernel_rfl) rfl ⟨⟨x,y,z,rfl,by omega,?_,fun h9=>by omega⟩,((m.setCell (by simp) _).setCell (by simp) _).setCell (by simp) _⟩;exact⟨fun h9=>by omega,fun h9=>absurd h9 E.out⟩
