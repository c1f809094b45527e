/- Walks: a table of corners: what stands in it. -/
import Derived.Test.YtpbdcppaiafbgaaGreatSurf
import Derived.Test.YtpbdcppaiafbgaaGreatTree
set_option maxRecDepth 100000
set_option maxHeartbeats 8000000
namespace Go.Mesh
def hasC(T:List T3)(c:Int):Prop:=0<=c/\c<3*(T.length:Int)
instance (T : List T3) (c : Int) : Decidable (hasC T c) := by unfold hasC; exact inferInstance
def Zns(T:List T3)(c:Int):Int:=if hasC T c then vt T c.toNat else -1
def Zre(T:List T3)(c:Int):Int:=if hasC T c then(nx c.toNat:Int)else -1
def Zrf(T:List T3)(c:Int):Int:=if hasC T c then(pv c.toNat:Int)else -1
def Zw9(T:List T3)(c:Int):Int×Int:=(Zns T (Zre T c),Zns T (Zrf T c))
end Go.Mesh
namespace Go.Proofs.YtpbdcppaiafbgaaGreat
open Go Go.RowKit Go.Words Go.Mesh
structure TabAt (w : World) (B g : Nat) (N : Int) (T : List T3) (vt : Value) (gm : Nat) (vf : Value) : Prop where
 blk:Bk w g 120 [.int .i64 N,vt,.map (some gm),vf]
 tris:Sl 3 RTri w B vt T
 few:T.length<=8192
 lt:g<B
 le:B<=w.heap.size
theorem TabAt.below{w w':World}{B B' g gm:Nat}{N:Int}{T:List T3}{vt vf:Value}(h:TabAt w B g N T vt gm vf)(hb:RowKit.Below B' w w')(hB:B<=B'):TabAt w' B g N T vt gm vf :=
 ⟨h.blk.below hb (by have:=h.lt;omega),h.tris.below zaaq (hb.mono hB),h.few,h.lt,Nat.le_trans h.le hb.size⟩
theorem TabAt.alloc{w:World}{B g gm:Nat}{N:Int}{T:List T3}{vt vf:Value}(h:TabAt w B g N T vt gm vf)(o:Obj):TabAt (w.alloc o) B g N T vt gm vf:=h.below ((zr w.heap.size w).alloc zl o) h.le
theorem Zur{w:World}{B g gm:Nat}{N:Int}{T:List T3}{vt vf:Value}(h:TabAt w B g N T vt gm vf)(c:Int) :
  Calls Tryz.prog 121 #[.pointer (some ⟨g,0,none⟩),.int .i64 c] w fun e w'=>e=.returned (.bool (decide (hasC T c)))/\w'=w:=by
 obtain⟨A,a,f,i⟩:=h.tris.form;subst f;have l:w.cell? ⟨g,0,none⟩=some (.int .i64 N):=h.blk.cell 0;have m:w.cell? ⟨g,1,none⟩=some (.slice A T.length a):=h.blk.cell 1;have j:=h.few;have n:=h.blk.lt;have k:=zz h;clear h;by_cases b:0<=c
 ·by_cases d:c<3*(T.length:Int)
  ·rw[show decide (hasC T c)=true from zY ⟨b,d⟩];go_enter Tryz.func121,Tryz.ntmps121;go_wp2;go_ret;exact⟨rfl,rfl⟩
  ·rw[show decide (hasC T c)=false from zN fun h9=>d h9.2];go_enter Tryz.func121,Tryz.ntmps121;go_wp2;go_ret;exact⟨rfl,rfl⟩
 ·rw[show decide (hasC T c)=false from zN fun h9=>b h9.1];go_enter Tryz.func121,Tryz.ntmps121;go_wp2;go_ret;exact⟨rfl,rfl⟩
theorem Zsc(n k:Nat)(hk:k=1\/k=2)(hn:n<32768)(w:World):Calls Tryz.prog 122 #[.int .i64 (n:Int),.int .i64 (k:Int)] w fun e w'=>e=.returned (.int .i64 ((n-n%3+(n+k)%3:Nat):Int))/\w'=w:=by
 go_enter Tryz.func122,Tryz.ntmps122;go_wp2;go_ret;refine⟨?_,rfl⟩;show Ending.returned (Value.int .i64 _)=Ending.returned (Value.int .i64 _)
 congr 2
 omega
theorem Zfn{w:World}{B g gm:Nat}{N:Int}{T:List T3}{vt vf:Value}(h:TabAt w B g N T vt gm vf)(c:Int) :
  Calls Tryz.prog 78 #[.pointer (some ⟨g,0,none⟩),.int .i64 c] w fun e f=>e=.returned (.int .i64 (Zre T c))/\f=w:=by
 have o:=h.few;have b:=Zur h c;by_cases a:hasC T c
 ·obtain⟨n,rfl⟩:∃n:Nat,c=n:=⟨c.toNat,by have:=a.1;omega⟩;have l:n<32768:=by have:=a.2;omega
  have k:=Zsc n 1 (.inl rfl) l w;rw[show Zre T n=((n-n%3+(n+1)%3:Nat):Int)from by unfold Zre;rw[if_pos a];unfold nx;simp];rw[zY a]at b;obtain⟨m,d,i,j⟩:=zz4 h b k a;clear h b k a;go_enter Tryz.func78,Tryz.ntmps78;go_wp2_with fail;refine d.out.mono ?_;rintro e f ⟨rfl,rfl⟩;go_wp2_with fail;refine i.out.mono ?_;rintro e f ⟨rfl,rfl⟩;go_wp2;go_ret;exact⟨rfl,rfl⟩
 ·rw[show Zre T c = -1 from by unfold Zre;rw[if_neg a]];rw[zN a]at b;obtain⟨m,d,j⟩:=zz3 h b a;clear h b a;go_enter Tryz.func78,Tryz.ntmps78;go_wp2_with fail;refine d.out.mono ?_;rintro e f ⟨rfl,rfl⟩;go_wp2;go_ret;exact⟨rfl,rfl⟩
theorem Zjx{w:World}{B g gm:Nat}{N:Int}{T:List T3}{vt vf:Value}(h:TabAt w B g N T vt gm vf)(c:Int) :
  Calls Tryz.prog 79 #[.pointer (some ⟨g,0,none⟩),.int .i64 c] w fun e f=>e=.returned (.int .i64 (Zrf T c))/\f=w:=by
 have o:=h.few;have b:=Zur h c;by_cases a:hasC T c
 ·obtain⟨n,rfl⟩:∃n:Nat,c=n:=⟨c.toNat,by have:=a.1;omega⟩;have l:n<32768:=by have:=a.2;omega
  have k:=Zsc n 2 (.inr rfl) l w;rw[show Zrf T n=((n-n%3+(n+2)%3:Nat):Int)from by unfold Zrf;rw[if_pos a];unfold pv;simp];rw[zY a]at b;obtain⟨m,d,i,j⟩:=zz4 h b k a;clear h b k a;go_enter Tryz.func79,Tryz.ntmps79;go_wp2_with fail;refine d.out.mono ?_;rintro e f ⟨rfl,rfl⟩;go_wp2_with fail;refine i.out.mono ?_;rintro e f ⟨rfl,rfl⟩;go_wp2;go_ret;exact⟨rfl,rfl⟩
 ·rw[show Zrf T c = -1 from by unfold Zrf;rw[if_neg a]];rw[zN a]at b;obtain⟨m,d,j⟩:=zz3 h b a;clear h b a;go_enter Tryz.func79,Tryz.ntmps79;go_wp2_with fail;refine d.out.mono ?_;rintro e f ⟨rfl,rfl⟩;go_wp2;go_ret;exact⟨rfl,rfl⟩
theorem Zp7{w:World}{B cap n:Nat}{A:Option Addr}{T:List T3}(h:Sl 3 RTri w B (.slice A T.length cap) T)(hn:n<3*T.length) :
  ∃b o,A=some ⟨b,o,none⟩/\b<B/\w.cell? ⟨b,o+n/3*3+n%3,none⟩=some (.int .i64 (Mesh.vt T n)):=by
 have c:n/3<T.length:=by omega
 obtain⟨b,o,d,f,g,i,j⟩:=h.tri_at c;refine⟨b,o,d,f,?_⟩;have e:T.getD (n/3) (0,0,0)=T[n/3]:=by rw[zD,zG c];rfl
 unfold Mesh.vt;rw[e];rcases mod3 n with a|a|a<;>rw[a]
 ·exact g
 ·exact i
 ·exact j
theorem Zeo{w:World}{B g gm:Nat}{N:Int}{T:List T3}{vt vf:Value}(h:TabAt w B g N T vt gm vf)(c:Int) :
  Calls Tryz.prog 77 #[.pointer (some ⟨g,0,none⟩),.int .i64 c] w fun e i=>e=.returned (.int .i64 (Zns T c))/\i=w:=by
 obtain⟨A,k,p,q⟩:=h.tris.form;subst p;have s:w.cell? ⟨g,1,none⟩=some (.slice A T.length k):=h.blk.cell 1;have r:=h.few;have d:=Zur h c;by_cases a:hasC T c
 ·obtain⟨n,rfl⟩:∃n:Nat,c=n:=⟨c.toNat,by have:=a.1;omega⟩;have l:n<3*T.length:=by have:=a.2;omega
  obtain⟨b,o,rfl,u,t⟩:=Zp7 h.tris l;rw[show Zns T n=Mesh.vt T n from by unfold Zns;rw[if_pos a];simp];rw[zY a]at d;generalize Mesh.vt T n=x at *;obtain⟨m,f,j⟩:=zz3 h d a;clear h d a;go_enter Tryz.func77,Tryz.ntmps77;go_wp2_with fail;refine f.out.mono ?_;rintro e i ⟨rfl,rfl⟩;go_wp2;go_ret;exact⟨rfl,rfl⟩
 ·rw[show Zns T c = -1 from by unfold Zns;rw[if_neg a]];rw[zN a]at d;obtain⟨m,f,j⟩:=zz3 h d a;clear h d a;go_enter Tryz.func77,Tryz.ntmps77;go_wp2_with fail;refine f.out.mono ?_;rintro e i ⟨rfl,rfl⟩;go_wp2;go_ret;exact⟨rfl,rfl⟩
theorem Zmr{w:World}{B g gm:Nat}{N:Int}{T:List T3}{vt vf:Value}(h:TabAt w B g N T vt gm vf) :
  Calls Tryz.prog 84 #[.pointer (some ⟨g,0,none⟩)] w fun e w'=>e=.returned (.int .i64 T.length)/\w'=w:=by
 obtain⟨A,a,b,c⟩:=h.tris.form;subst b;have f:w.cell? ⟨g,1,none⟩=some (.slice A T.length a):=h.blk.cell 1;have d:=zz h;clear h;go_enter Tryz.func84,Tryz.ntmps84;go_wp2;go_ret;exact⟨rfl,rfl⟩
theorem Zn1{w:World}{B g gm:Nat}{N:Int}{T:List T3}{vt vf:Value}(h:TabAt w B g N T vt gm vf) :
  Calls Tryz.prog 91 #[.pointer (some ⟨g,0,none⟩)] w fun e w'=>e=.returned (.int .i64 N)/\w'=w:=by
 have b:w.cell? ⟨g,0,none⟩=some (.int .i64 N):=h.blk.cell 0;have a:=zz h;clear h;go_enter Tryz.func91,Tryz.ntmps91;go_wp2;go_ret;exact⟨rfl,rfl⟩
theorem Zql{w:World}{B g gm:Nat}{N:Int}{T:List T3}{vt vf:Value}(h:TabAt w B g N T vt gm vf)(c:Int) :
  Calls Tryz.prog 26 #[.pointer (some ⟨g,0,none⟩),.int .i64 c] w fun e b=>e=.returned (enc2 (Zw9 T c))/\RowKit.Below w.heap.size w b:=by
 have q:=h.blk.lt;have a:=h.alloc (.cells #[.int .i64 0,.int .i64 0] 39);have k:=Zfn a c;have l:=Zeo a (Zre T c);have m:=Zjx a c;have n:=Zeo a (Zrf T c)
 change Calls Tryz.prog 26 _ _ fun e b=>e=.returned (.agg #[.int .i64 (Zns T (Zre T c)),.int .i64 (Zns T (Zrf T c))])/\_
 generalize Zns T (Zre T c)=x at *;generalize Zns T (Zrf T c)=y at *;obtain⟨p,o,d,f,i,j⟩:=zz6 h a k l m n;clear h a k l m n;go_enter Tryz.func26,Tryz.ntmps26;go_wp2_with fail;refine d.out.mono ?_;rintro e b ⟨rfl,rfl⟩;go_wp2_with fail;refine f.out.mono ?_;rintro e b ⟨rfl,rfl⟩;go_wp2_with fail;refine i.out.mono ?_;rintro e b ⟨rfl,rfl⟩;go_wp2_with fail;refine j.out.mono ?_;rintro e b ⟨rfl,rfl⟩;go_wp2;exact Zbg rfl rfl (Bk.new w 39 [.int .i64 x,.int .i64 y]) Tryz.underlying39 rfl (by kernel_rfl) rfl ⟨rfl,(zr w.heap.size w).alloc zl _⟩
