/- Walks: a table's Facing, Corner, Opp. Walks: ring's before. -/
import Derived.Test.YtpbdcppaiafbgaaGreatTB
set_option maxRecDepth 100000
set_option maxHeartbeats 8000000
namespace Go.Mesh
def oi:Option Nat->Int
 | some c=>c
 | none=>-1
def tOpp(T:List T3)(c:Int):Int:=oi (facing T ((Zw9 T c).2,(Zw9 T c).1))
theorem Zk9{T:List T3}{c:Nat}(h:c<3*T.length):tOpp T c=oi (opp T c):=by
 unfold tOpp;rw[tEdge_at h];rfl
def Zpx(T:List T3)(N:Int)(v:Int):Int:=if 0<=v/\v<N then oi (Zcy T v)else -1
end Go.Mesh
namespace Go.Proofs.YtpbdcppaiafbgaaGreat
open Go Go.RowKit Go.Words Go.Mesh
theorem Zce{w:World}{B:Nat}{pv:Value}{N:Int}{T:List T3}(h:Tab w B pv N T)(x y:Int)(hx:I64 x)(hy:I64 y) :
  Calls Tryz.prog 32 #[pv,.agg #[.int .i64 x,.int .i64 y]] w fun e w'=>e=.returned (.int .i64 (oi (facing T (x,y))))/\RowKit.Below w.heap.size w w':=by
 obtain⟨g,vt,o,M,m,F,rfl,a,j,J,b,u,c⟩:=h;have L:=a.blk.lt;have I:=j.lt;have E:w.cell? ⟨g,2,none⟩=some (.map (some o)):=a.blk.cell 2;have f:=(zr w.heap.size w).alloc zl (.cells #[.int .i64 x,.int .i64 y] 39);have A:=j.alloc (.cells #[.int .i64 x,.int .i64 y] 39);have t:=Bk.new w 39 [.int .i64 x,.int .i64 y];have C:=a.blk.alloc (.cells #[.int .i64 x,.int .i64 y] 39);have z:=b (x,y) ⟨hx,hy⟩;obtain⟨D,H,r,G,p,k,d,l,q⟩:=zz9 a j b u c A t C z;clear a j b u c A t C z;go_enter Tryz.func32,Tryz.ntmps32;go_wp2_with fail;obtain⟨i,n⟩:∃i:World,i=w.alloc (.cells #[.int .i64 x,.int .i64 y] 39):=⟨_,rfl⟩;rw[<- n]at f k d l ⊢;clear n;have E:i.cell? ⟨g,2,none⟩=some (.map (some o)):=l.out.cell 2;have s:i.cell? ⟨w.heap.size,0,none⟩=some (.int .i64 x):=d.out.cell 0;have K:i.cell? ⟨w.heap.size,1,none⟩=some (.int .i64 y):=d.out.cell 1;refine Canon.wp_region_tree [4] (fun _=>True) (.seg [0,4] (.alt 1 (.seg [2,3] (.alt 5 (.seg [6,7,8,9,10] .fin) .no)) .no)) mixed (by kernel_rfl) ?_;refine Canon.tr_seg ?_;simp only[zm,zg];go_wp2_with fail;refine Canon.tr_to (Canon.tr_one ?_);simp only[zg];go_wp2_with fail;refine Canon.tr_end (fun _ _=>rfl) (Canon.tr_seg ?_);simp only[zm,zg];go_wp2_with fail;refine Canon.tr_to (Canon.tr_one ?_);simp only[zg];refine Zeb _ rfl _ _ 118 rfl 39 3 keyE Tryz.underlying118 Zcp o m rfl k.out.drew (x,y) rfl ⟨hx,hy⟩ ?_;rw[q.out];go_wp2_with fail;refine Canon.tr_end (fun _ _=>rfl) (Canon.tr_seg ?_);simp only[zm,zg];cases v:facing T (x,y)
 ·go_wp2_with fail;refine Canon.tr_to (Canon.tr_fin (by rfl) (zF ⟨.inl ⟨_,rfl,trivial,by rw[zw,s];rfl⟩,fun _ h=>by cases h⟩) ?_);go_wp2;go_ret;exact⟨by rw[v];rfl,f.drew⟩
 ·go_wp2_with fail;refine Canon.tr_to (Canon.tr_fin (by rfl) (zF ⟨.inl ⟨_,rfl,trivial,by rw[zw,s];rfl⟩,fun _ h=>by cases h⟩) ?_);go_wp2;go_ret;exact⟨by rw[v];rfl,f.drew⟩
theorem Zin{w:World}{B:Nat}{pv:Value}{N:Int}{T:List T3}(h:Tab w B pv N T)(hs:Surf N T)(v:Int) :
  Calls Tryz.prog 50 #[pv,.int .i64 v] w fun e w'=>e=.returned (.int .i64 (Zpx T N v))/\w'=w:=by
 obtain⟨g,vt,V,vf,m,F,rfl,f,x,U,i,l,a⟩:=h;have X:=hs.n0;have R:=hs.nmax;have hg:=f.blk.lt;obtain⟨A,J,rfl,C⟩:=l.form;have Q:F.length=N.toNat:=a.1;have O:w.cell? ⟨g,3,none⟩=some (.slice A (F.map fun n:Nat=>(n:Int)).length J):=f.blk.cell 3;rw[zL]at O C;have s:=a.2;by_cases y:0<=v/\v<N
 ·obtain⟨u,rfl⟩:∃u:Nat,v=u:=⟨v.toNat,by omega⟩;have L:u<F.length:=by omega
  obtain⟨b,o,rfl,Y,z⟩:=l.int_at (k:=u) (by simpa using L);rw[List.getElem_map,s u L,Zzm]at z;obtain⟨c,Z,K⟩:=hs.used u (by omega) y.2;obtain⟨d,q⟩:=zbbq (p:=fun d=>Mesh.vt T d==(u:Int)) (n:=3*T.length) (k:=0) (c:=c) (by omega) (by omega) (by simp[K]);have q:Zcy T u=some d:=q;have D:Zpx T N u=(d:Int):=by unfold Zpx;rw[if_pos y,q];rfl
  rw[D];rw[q]at z;simp only[Option.getD_some]at z;obtain⟨t,H,r,G,j,E,I,P⟩:=zz8 f x i l a s hs q;clear f x i l a s hs q;go_enter Tryz.func50,Tryz.ntmps50;go_wp2;go_ret;exact⟨rfl,rfl⟩
 ·have D:Zpx T N v = -1:=by unfold Zpx;rw[if_neg y]
  rw[D];obtain⟨t,H,r,G,j,E,I⟩:=zz7 f x i l a s hs;clear f x i l a s hs;by_cases M:0<=v
  ·have S:(F.length:Int)<=v:=by omega
   go_enter Tryz.func50,Tryz.ntmps50;go_wp2;go_ret;exact⟨rfl,rfl⟩
  ·have W:v<0:=by omega
   clear M y;go_enter Tryz.func50,Tryz.ntmps50;go_wp2;go_ret;exact⟨rfl,rfl⟩
theorem tEdge_I64{T:List T3}{N:Int}(hs:Surf N T)(c:Int):I64 (Zw9 T c).1/\I64 (Zw9 T c).2:=by
 have b:=hs.nmax;have a:∀d:Int,I64 (Zns T d):=by
  intro d;unfold Zns
  split
  ·rename_i h;have:=hs.rng d.toNat (by have:=h.1;have:=h.2;omega);unfold I64;omega
  ·unfold I64;omega
 exact⟨a _,a _⟩
theorem Zfx{w:World}{B:Nat}{pv:Value}{N:Int}{T:List T3}(h:Tab w B pv N T)(hs:Surf N T)(c:Int) :
  Calls Tryz.prog 27 #[pv,.int .i64 c] w fun e w'=>e=.returned (.int .i64 (tOpp T c))/\RowKit.Below w.heap.size w w':=by
 have p:=h;have u:=h.le;obtain⟨g,vt,E,G,m,F,rfl,a,_⟩:=h;have k:=Zql a c;obtain⟨f,i⟩:=tEdge_I64 hs c;have d:tOpp T c=oi (facing T ((Zw9 T c).2,(Zw9 T c).1)):=rfl;rw[d];clear d;generalize Zw9 T c=z at *;obtain⟨x,y⟩:=z;simp only[]at f i ⊢;have t:=fun wz (hz:Tab wz B (.pointer (some ⟨g,0,none⟩)) N T)=>Zce hz y x i f
 change Calls _ _ _ _ (fun e w'=>e=.returned (.agg #[.int .i64 x,.int .i64 y])/\_)at k
 generalize oi (facing T (y,x))=r at *;obtain⟨l,A,v,n,o,C,D⟩:=zz7 p hs a k t f i;clear p hs a k t f i;go_enter Tryz.func27,Tryz.ntmps27;go_wp2_with fail;refine n.out.mono ?_;rintro e H ⟨rfl,j⟩;have b:=j.alloc j.size (.cells #[.int .i64 x,.int .i64 y] 39);go_wp2_with fail;refine(o.out _ (l.out.below b u)).mono ?_;rintro e I ⟨rfl,q⟩;have s:=zapq b q b.size;go_wp2;go_ret;exact⟨rfl,s⟩
end Go.Proofs.YtpbdcppaiafbgaaGreat
namespace Go.Mesh
theorem Zpy{T:List T3}{c:Nat}(h:c<3*T.length):Zre T (c:Int)=(nx c:Int):=by
 unfold Zre;rw[if_pos ⟨by omega,by omega⟩];simp
theorem Zpz{T:List T3}{c:Nat}(h:c<3*T.length):Zrf T (c:Int)=(pv c:Int):=by
 unfold Zrf;rw[if_pos ⟨by omega,by omega⟩];simp
end Go.Mesh
namespace Go.Proofs.YtpbdcppaiafbgaaGreat
open Go Go.RowKit Go.Words Go.Mesh
theorem Ztj{w:World}{B:Nat}{pv:Value}{N:Int}{T:List T3}(h:Tab w B pv N T)(hs:Surf N T)(c:Nat)(hc:c<3*T.length) :
  Calls Tryz.prog 83 #[pv,.int .i64 (c:Int)] w fun e w'=>e=.returned (.int .i64 (oi (aft T c)))/\RowKit.Below w.heap.size w w':=by
 have p:=h;have A:=h.le;have f:=Zfx h hs (nx c:Int);rw[Zk9 (Zam hc)]at f;have l:∀s (d:Int),Tab s B pv N T->Calls Tryz.prog 78 #[pv,.int .i64 d] s fun e w'=>e=.returned (.int .i64 (Zre T d))/\w'=s:=by
  rintro s d ⟨g,vt,E,G,m,F,rfl,y,_⟩;exact Zfn y d
 have i:=l w c h;rw[Zpy hc]at i;have a:aft T c=(opp T (nx c)).map nx:=rfl;rw[a];cases b:opp T (nx c)with
 | none =>
  rw[b]at f
  change Calls Tryz.prog 83 _ _ fun e w'=>e=.returned (.int .i64 (-1))/\_
  change Calls _ _ _ _ fun e w'=>e=.returned (.int .i64 (-1))/\_ at f
  obtain⟨t,z,k,u,j,x,o,C⟩:=zz8 p hs f l i b a h;clear p hs f l i b a h;go_enter Tryz.func83,Tryz.ntmps83;go_wp2_with fail;refine j.out.mono ?_;rintro e r ⟨rfl,rfl⟩;go_wp2_with fail;refine k.out.mono ?_;rintro e r ⟨rfl,q⟩;go_wp2;go_ret;exact⟨rfl,q⟩
 | some d =>
  rw[b]at f;have D:=(hs.opp_iff.1 b).1
  change Calls Tryz.prog 83 _ _ fun e w'=>e=.returned (.int .i64 (nx d:Int))/\_
  change Calls _ _ _ _ fun e w'=>e=.returned (.int .i64 (d:Int))/\_ at f
  obtain⟨t,z,k,j,x,o,C⟩:=zz7 p hs f i b a h;clear p hs f i b a h;have u:=Lib.hid l;clear l;go_enter Tryz.func83,Tryz.ntmps83;go_wp2_with fail;refine j.out.mono ?_;rintro e r ⟨rfl,rfl⟩;go_wp2_with fail;refine k.out.mono ?_;rintro e r ⟨rfl,q⟩;have n:=u.out r d (t.out.below q A);rw[Zpy D]at n;have v:=zz n;clear n;go_wp2_with fail;refine v.out.mono ?_;rintro e H ⟨rfl,rfl⟩;go_wp2;go_ret;exact⟨rfl,q⟩
theorem before_calls{w:World}{B:Nat}{tv:Value}{N:Int}{T:List T3}(h:Tab w B tv N T)(hs:Surf N T)(c:Nat)(hc:c<3*T.length) :
  Calls Tryz.prog 123 #[tv,.int .i64 (c:Int)] w fun e w'=>e=.returned (.int .i64 (oi (bef T c)))/\RowKit.Below w.heap.size w w':=by
 have p:=h;have A:=h.le;have f:=Zfx h hs (pv c:Int);rw[Zk9 (Zaj hc)]at f;have l:∀s (d:Int),Tab s B tv N T->Calls Tryz.prog 79 #[tv,.int .i64 d] s fun e w'=>e=.returned (.int .i64 (Zrf T d))/\w'=s:=by
  rintro s d ⟨g,vt,E,G,m,F,rfl,y,_⟩;exact Zjx y d
 have i:=l w c h;rw[Zpz hc]at i;have a:bef T c=(opp T (pv c)).map pv:=rfl;rw[a];cases b:opp T (pv c)with
 | none =>
  rw[b]at f
  change Calls Tryz.prog 123 _ _ fun e w'=>e=.returned (.int .i64 (-1))/\_
  change Calls _ _ _ _ fun e w'=>e=.returned (.int .i64 (-1))/\_ at f
  obtain⟨t,z,k,u,j,x,o,C⟩:=zz8 p hs f l i b a h;clear p hs f l i b a h;go_enter Tryz.func123,Tryz.ntmps123;go_wp2_with fail;refine j.out.mono ?_;rintro e r ⟨rfl,rfl⟩;go_wp2_with fail;refine k.out.mono ?_;rintro e r ⟨rfl,q⟩;go_wp2;go_ret;exact⟨rfl,q⟩
 | some d =>
  rw[b]at f;have D:=(hs.opp_iff.1 b).1
  change Calls Tryz.prog 123 _ _ fun e w'=>e=.returned (.int .i64 (pv d:Int))/\_
  change Calls _ _ _ _ fun e w'=>e=.returned (.int .i64 (d:Int))/\_ at f
  obtain⟨t,z,k,j,x,o,C⟩:=zz7 p hs f i b a h;clear p hs f i b a h;have u:=Lib.hid l;clear l;go_enter Tryz.func123,Tryz.ntmps123;go_wp2_with fail;refine j.out.mono ?_;rintro e r ⟨rfl,rfl⟩;go_wp2_with fail;refine k.out.mono ?_;rintro e r ⟨rfl,q⟩;have n:=u.out r d (t.out.below q A);rw[Zpz D]at n;have v:=zz n;clear n;go_wp2_with fail;refine v.out.mono ?_;rintro e H ⟨rfl,rfl⟩;go_wp2;go_ret;exact⟨rfl,q⟩
open Go Go.RowKit Go.Words Go.Mesh
theorem there_nil(v:Int)(w:World):Calls Tryz.prog 80 #[.pointer none,.int .i64 v] w fun e w'=>e=.returned (.bool false)/\w'=w:=by
 go_enter Tryz.func80,Tryz.ntmps80;go_wp2;go_ret;exact⟨rfl,rfl⟩
theorem Zwe{w:World}{B:Nat}{tv:Value}{N:Int}{T:List T3}(h:Tab w B tv N T)(hs:Surf N T)(v:Int) :
  Calls Tryz.prog 80 #[tv,.int .i64 v] w fun e w'=>e=.returned (.bool (decide (0<=v/\v<N)))/\w'=w:=by
 have o:=Zin h hs v;have x:Calls Tryz.prog 91 #[tv] w fun e w'=>e=.returned (.int .i64 N)/\w'=w:=by
  obtain⟨g,vt,A,C,m,F,rfl,b,_⟩:=h;exact Zn1 b
 obtain⟨g,vt,A,C,m,F,rfl,b,_⟩:=h;have a:0<=v/\v<N->0<=Zpx T N v:=by
  intro f;unfold Zpx;rw[if_pos f];obtain⟨c,o,u⟩:=hs.used v f.1 f.2;obtain⟨d,q⟩:=zbbq (p:=fun d=>Mesh.vt T d==v) (n:=3*T.length) (k:=0) (c:=c) (by omega) (by omega) (by simp[u]);have q:Zcy T v=some d:=q;rw[q];show(0:Int)<=(d:Int);omega
 generalize Zpx T N v=r at *;obtain⟨s,j,z,D⟩:=zz4 o x b hs;clear o x b hs;by_cases i:0<=v
 ·by_cases l:v<N
  ·have t:=a ⟨i,l⟩;clear a;rw[zY ⟨i,l⟩];go_enter Tryz.func80,Tryz.ntmps80;go_wp2_with fail;refine j.out.mono ?_;rintro e y ⟨rfl,rfl⟩;go_wp2_with fail;refine s.out.mono ?_;rintro e y ⟨rfl,rfl⟩;go_wp2;go_ret;exact⟨rfl,rfl⟩
  ·clear a;have t:N<=v:=by omega
   rw[zN fun f=>l f.2];go_enter Tryz.func80,Tryz.ntmps80;go_wp2_with fail;refine j.out.mono ?_;rintro e y ⟨rfl,rfl⟩;go_wp2;go_ret;exact⟨rfl,rfl⟩
 ·clear a;have t:v<0:=by omega
  rw[zN fun f=>i f.1];clear i;go_enter Tryz.func80,Tryz.ntmps80;go_wp2;go_ret;exact⟨rfl,rfl⟩
