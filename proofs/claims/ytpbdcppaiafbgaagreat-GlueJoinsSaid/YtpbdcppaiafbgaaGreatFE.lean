/- Walks: sew's find and one (closures that share two. -/
import Derived.Test.YtpbdcppaiafbgaaGreatMC
import Derived.Test.YtpbdcppaiafbgaaGreatTree
import Derived.Test.YtpbdcppaiafbgaaGreatGA
set_option maxRecDepth 100000
set_option maxHeartbeats 8000000
namespace Go.Words
open Go Go.RowKit Go.Mesh
def R4:Rep P4:=fun _ _ p cs=>cs=[.int .i64 p.1.1,.int .i64 p.1.2,.int .i64 p.2.1,.int .i64 p.2.2]
theorem Zas:Keeps R4:=⟨fun h _ _=>h⟩
theorem Sl.p4_at{w:World}{B n cap k:Nat}{A:Option Addr}{l:List P4}(h:Sl 4 R4 w B (.slice A n cap) l){p:P4}(hk:l[k]? = some p) :
  ∃b o,A=some ⟨b,o,none⟩/\b<B/\w.cell? ⟨b,o+k*4,none⟩=some (.int .i64 p.1.1)/\w.cell? ⟨b,o+k*4+1,none⟩=some (.int .i64 p.1.2)/\w.cell? ⟨b,o+k*4+2,none⟩=some (.int .i64 p.2.1)/\w.cell? ⟨b,o+k*4+3,none⟩=some (.int .i64 p.2.2):=by
 obtain⟨b,o,f,d,e,g,c,a⟩:=h.at_ hk;unfold R4 at c;subst c;exact⟨b,o,d,e,by simpa using a 0 _ rfl,a 1 _ rfl,a 2 _ rfl,a 3 _ rfl⟩
end Go.Words
namespace Go.Proofs.YtpbdcppaiafbgaaGreat
open Go Go.RowKit Go.Words Go.Mesh
structure FindW (w : World) (gr gf g : Nat) (R : List Int) : Prop where
 root:w.cell? ⟨gr,0,none⟩=some (.slice (some ⟨g,0,none⟩) R.length R.length)
 find:w.cell? ⟨gf,0,none⟩=some (.func (.func 100) #[] #[.pointer (some ⟨gr,0,none⟩),.pointer (some ⟨gf,0,none⟩)])
 bk:Bk w g 3 (R.map (Value.int .i64))
 lr:gr<w.heap.size
 lf:gf<w.heap.size
theorem FindW.below{w w':World}{gr gf g:Nat}{R:List Int}(h:FindW w gr gf g R)(hb:Below w.heap.size w w'):FindW w' gr gf g R :=
 ⟨(hb.cell (p:=⟨gr,0,none⟩) h.lr).trans h.root,(hb.cell (p:=⟨gf,0,none⟩) h.lf).trans h.find,h.bk.below hb h.bk.lt,Nat.lt_of_lt_of_le h.lr hb.size,Nat.lt_of_lt_of_le h.lf hb.size⟩
theorem FindW.drew{w:World}{gr gf g:Nat}{R:List Int}(h:FindW w gr gf g R):FindW w.drew gr gf g R:=⟨h.root,h.find,h.bk.drew,h.lr,h.lf⟩
theorem Zxu{R:List Int}{L:Int->Int}{n:Nat}(hR:Roots R L n)(gr gf g:Nat):∀v:Nat,v<n->∀w,FindW w gr gf g R ->
  Calls Tryz.prog 100 #[.int .i64 (v:Int),.pointer (some ⟨gr,0,none⟩),.pointer (some ⟨gf,0,none⟩)] w fun e w'=>e=.returned (.int .i64 (L (v:Int)))/\Below w.heap.size w w':=by
 intro v
 induction v using Nat.strongRecOn with
 | ind v ih =>
  intro y w c;obtain⟨r,f,F,h,i⟩:=hR.2 v y;have D:=c.root;have E:=c.find;have C:v<R.length:=by rw[hR.1];exact y
  have A:=c.bk.cell v;rw[zJ,f,Option.map_some]at A;have j:=zr w.heap.size w;by_cases a:r=v
  ·have l:=h.1 a;have x:((r:Int)==(v:Int))=true:=by rw[a];exact beq_self_eq_true _
   rw[l];obtain⟨q,m,o,p,B,k,s⟩:=zz7 c f h i l a ih;clear c f h i l a ih;go_enter Tryz.func100,Tryz.ntmps100;go_wp2_with fail;go_ret;exact⟨rfl,j⟩
  ·have x:((r:Int)==(v:Int))=false:=by rw[beq_eq_false_iff_ne];omega
   have b:=ih r (by omega) (by omega) w.drew c.drew;rw[i]at b;generalize L (v:Int)=z at *;obtain⟨q,m,o,p,k,s,d⟩:=zz7 c f h i a ih b;clear c f h i a ih b;go_enter Tryz.func100,Tryz.ntmps100;go_wp2_with fail;refine Canon.wp_region_text mixed (by kernel_rfl) ?_;go_wp2_with fail;refine d.out.mono ?_;rintro e G ⟨rfl,t⟩;have u:=j.drew.trans t;go_wp2_with fail;refine Canon.chk (by rfl) ?_;go_wp2_with fail;go_ret;exact⟨rfl,u⟩
theorem Zgy{R:List Int}{L:Int->Int}{n:Nat}(hR:Roots R L n)(hL:Lab L)(h0:∀v,0<=v->0<=L v)(gr gf g:Nat)(hgr:gr≠g)(hgf:gf≠g)(v u:Nat)(hv:v<n)(hu:u<n)(w:World)(hw:FindW w gr gf g R) :
  Calls Tryz.prog 101 #[.int .i64 (v:Int),.int .i64 (u:Int),.pointer (some ⟨gf,0,none⟩),.pointer (some ⟨gr,0,none⟩)] w fun e w'=>e=.returned (.tuple #[])/\(∃R',Roots R' (mrg L v u) n/\FindW w' gr gf g R')/\w.grownBy w' (some g):=by
 have K:=Zxu hR gr gf g;obtain⟨a,J⟩:∃a:Nat,L (v:Int)=a:=⟨(L v).toNat,by have:=h0 v (by omega);omega⟩;obtain⟨b,l⟩:∃b:Nat,L (u:Int)=b:=⟨(L u).toNat,by have:=h0 u (by omega);omega⟩;have ah:=hL.le v;have ai:=hL.le u;have q:=hR.join hL J l;have af:=hR.1;have U:max a b<R.length:=by omega
 have aa:max (a:Int) b=((max a b:Nat):Int):=by omega
 have a9:min (a:Int) b=((min a b:Nat):Int):=by omega
 have ag:=hw.bk.lt;have ad:g<=w.heap.size:=by omega
 have aj:=hw.lr;have H:=hw.lf;have c2:=hw.find;have D:=fun w hw=>K v hv w hw
 have C:=fun w hw=>K u hu w hw
 rw[J]at D;rw[l]at C;have T:=zr w.heap.size w;have h3:(max a b=b/\min a b=a/\min a b<max a b)\/(max a b=a/\min a b=b/\min a b<max a b)\/(max a b=b/\max a b=a/\max a b=min a b):=by omega
 generalize max a b=i at *;generalize min a b=G at *;clear aa a9;rcases h3 with⟨V,W,a8⟩|⟨V,W,a8⟩|⟨V,W,q3⟩
 ·subst V;subst W;obtain⟨a3,a0,Z,Y,m,B,A,s,a1,a2⟩:=zz10 K hR hL h0 q D C hw J l;clear K hR hL h0 q D C hw J l;go_enter Tryz.func101,Tryz.ntmps101;go_wp2_with fail;refine Canon.wp_region_tree [3] (fun b=>b=gf) (.seg [0,1,3,4] (.alt 2 (.alt 5 (.seg [6,7] .fin) .no) .no)) mixed (by kernel_rfl) ?_;refine Canon.tr_seg ?_;simp only[zm,zg];go_wp2_with fail;refine Canon.tr_to (Canon.tr_one ?_);simp only[zg];go_wp2_with fail;refine(B.out w.drew s.out.drew).mono ?_;rintro e X ⟨rfl,f⟩;have f:=T.drew.trans f;have y:=s.out.below f;have N:=f.size;have o:=zz y;clear y;go_wp2_with fail;refine Canon.tr_end (fun b l=>by subst l;exact f.block _ H) (Canon.tr_one ?_);simp only[zg];go_wp2_with fail;refine(A.out X o.out).mono ?_;rintro e F ⟨rfl,c⟩;have d:=o.out.below c;have c:=f.trans (c.mono N);have Q:=d.root;have a6:=c.size;have M:∃x,R[i]? = some x:=⟨_,zG U⟩;obtain⟨x,E⟩:=M;have S:=d.bk.cell i;rw[zJ,E,Option.map_some]at S;have a5:=d.bk.frozen i;have j:=d.bk.set i (.int .i64 (G:Int));rw[<- List.map_set]at j;have I:=d.find;have p:FindW (F.setCell ⟨g,i,none⟩ (.int .i64 (G:Int))) gr gf g (R.set i (G:Int)):=⟨by
    rw[World.cell?_setCell_other _ _ _ _ (by intro h;injection h with h;exact hgr h.symm),Q,List.length_set],by
    rw[World.cell?_setCell_other _ _ _ _ (by intro h;injection h with h;exact hgf h.symm)];exact I,j,by simp;omega,by simp;omega⟩
  have t:w.grownBy (F.setCell ⟨g,i,none⟩ (.int .i64 (G:Int))) (some g):=⟨c.os,c.tape,c.output,by simpa using c.size,fun k hk hne=>(Below.heap_setCell F ⟨g,i,none⟩ (.int .i64 (G:Int)) k (fun h9=>hne (by rw[h9]))).trans (c.block k hk)⟩;obtain⟨P,O,r,z,a4⟩:=zz5 d j p t E;clear d j p t E;go_wp2_with fail;refine Canon.tr_end (fun b l=>by subst l;exact c.block _ H) (Canon.tr_seg ?_);simp only[zm,zg];go_wp2_with fail;refine Canon.tr_to (Canon.tr_fin (by rfl) (zF ⟨.inl ⟨_,rfl,rfl,by rw[zw,c2];rfl⟩,fun _ h=>by cases h⟩) ?_);go_wp2_with fail;go_end0;exact⟨rfl,⟨_,m.out,r.out⟩,z.out⟩
 ·subst V;subst W;obtain⟨a3,a0,Z,Y,m,B,A,s,a1,a2⟩:=zz10 K hR hL h0 q D C hw J l;clear K hR hL h0 q D C hw J l;go_enter Tryz.func101,Tryz.ntmps101;go_wp2_with fail;refine Canon.wp_region_tree [3] (fun b=>b=gf) (.seg [0,1,3,4] (.alt 2 (.alt 5 (.seg [6,7] .fin) .no) .no)) mixed (by kernel_rfl) ?_;refine Canon.tr_seg ?_;simp only[zm,zg];go_wp2_with fail;refine Canon.tr_to (Canon.tr_one ?_);simp only[zg];go_wp2_with fail;refine(B.out w.drew s.out.drew).mono ?_;rintro e X ⟨rfl,f⟩;have f:=T.drew.trans f;have y:=s.out.below f;have N:=f.size;have o:=zz y;clear y;go_wp2_with fail;refine Canon.tr_end (fun b l=>by subst l;exact f.block _ H) (Canon.tr_one ?_);simp only[zg];go_wp2_with fail;refine(A.out X o.out).mono ?_;rintro e F ⟨rfl,c⟩;have d:=o.out.below c;have c:=f.trans (c.mono N);have Q:=d.root;have a6:=c.size;have M:∃x,R[i]? = some x:=⟨_,zG U⟩;obtain⟨x,E⟩:=M;have S:=d.bk.cell i;rw[zJ,E,Option.map_some]at S;have a5:=d.bk.frozen i;have j:=d.bk.set i (.int .i64 (G:Int));rw[<- List.map_set]at j;have I:=d.find;have p:FindW (F.setCell ⟨g,i,none⟩ (.int .i64 (G:Int))) gr gf g (R.set i (G:Int)):=⟨by
    rw[World.cell?_setCell_other _ _ _ _ (by intro h;injection h with h;exact hgr h.symm),Q,List.length_set],by
    rw[World.cell?_setCell_other _ _ _ _ (by intro h;injection h with h;exact hgf h.symm)];exact I,j,by simp;omega,by simp;omega⟩
  have t:w.grownBy (F.setCell ⟨g,i,none⟩ (.int .i64 (G:Int))) (some g):=⟨c.os,c.tape,c.output,by simpa using c.size,fun k hk hne=>(Below.heap_setCell F ⟨g,i,none⟩ (.int .i64 (G:Int)) k (fun h9=>hne (by rw[h9]))).trans (c.block k hk)⟩;obtain⟨P,O,r,z,a4⟩:=zz5 d j p t E;clear d j p t E;go_wp2_with fail;refine Canon.tr_end (fun b l=>by subst l;exact c.block _ H) (Canon.tr_seg ?_);simp only[zm,zg];go_wp2_with fail;refine Canon.tr_to (Canon.tr_fin (by rfl) (zF ⟨.inl ⟨_,rfl,rfl,by rw[zw,c2];rfl⟩,fun _ h=>by cases h⟩) ?_);go_wp2_with fail;go_end0;exact⟨rfl,⟨_,m.out,r.out⟩,z.out⟩
 ·subst V;subst W;subst q3;obtain⟨a3,a0,Z,Y,m,B,A,s,a1,a2⟩:=zz10 K hR hL h0 q D C hw J l;clear K hR hL h0 q D C hw J l;go_enter Tryz.func101,Tryz.ntmps101;go_wp2_with fail;refine Canon.wp_region_tree [3] (fun b=>b=gf) (.seg [0,1,3,4] (.alt 2 (.alt 5 (.seg [6,7] .fin) .no) .no)) mixed (by kernel_rfl) ?_;refine Canon.tr_seg ?_;simp only[zm,zg];go_wp2_with fail;refine Canon.tr_to (Canon.tr_one ?_);simp only[zg];go_wp2_with fail;refine(B.out w.drew s.out.drew).mono ?_;rintro e X ⟨rfl,f⟩;have f:=T.drew.trans f;have y:=s.out.below f;have N:=f.size;have o:=zz y;clear y;go_wp2_with fail;refine Canon.tr_end (fun b l=>by subst l;exact f.block _ H) (Canon.tr_one ?_);simp only[zg];go_wp2_with fail;refine(A.out X o.out).mono ?_;rintro e F ⟨rfl,c⟩;have d:=o.out.below c;have c:=f.trans (c.mono N);have Q:=d.root;have a6:=c.size;have M:∃x,R[i]? = some x:=⟨_,zG U⟩;obtain⟨x,E⟩:=M;have S:=d.bk.cell i;rw[zJ,E,Option.map_some]at S;have a5:=d.bk.frozen i;have j:=d.bk.set i (.int .i64 (i:Int));rw[<- List.map_set]at j;have I:=d.find;have p:FindW (F.setCell ⟨g,i,none⟩ (.int .i64 (i:Int))) gr gf g (R.set i (i:Int)):=⟨by
    rw[World.cell?_setCell_other _ _ _ _ (by intro h;injection h with h;exact hgr h.symm),Q,List.length_set],by
    rw[World.cell?_setCell_other _ _ _ _ (by intro h;injection h with h;exact hgf h.symm)];exact I,j,by simp;omega,by simp;omega⟩
  have t:w.grownBy (F.setCell ⟨g,i,none⟩ (.int .i64 (i:Int))) (some g):=⟨c.os,c.tape,c.output,by simpa using c.size,fun k hk hne=>(Below.heap_setCell F ⟨g,i,none⟩ (.int .i64 (i:Int)) k (fun h9=>hne (by rw[h9]))).trans (c.block k hk)⟩;obtain⟨P,O,r,z,a4⟩:=zz5 d j p t E;clear d j p t E;go_wp2_with fail;refine Canon.tr_end (fun b l=>by subst l;exact c.block _ H) (Canon.tr_seg ?_);simp only[zm,zg];go_wp2_with fail;refine Canon.tr_to (Canon.tr_fin (by rfl) (zF ⟨.inl ⟨_,rfl,rfl,by rw[zw,c2];rfl⟩,fun _ h=>by cases h⟩) ?_);go_wp2_with fail;go_end0;exact⟨rfl,⟨_,m.out,r.out⟩,z.out⟩
