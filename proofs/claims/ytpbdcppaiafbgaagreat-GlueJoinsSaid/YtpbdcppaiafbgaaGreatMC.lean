/- Walks: certify's index, loop. Walks: certify's loop. Walks. -/
import Derived.Test.YtpbdcppaiafbgaaGreatMap
import Derived.Test.YtpbdcppaiafbgaaGreatMesh
import Derived.BigGuardPart
import Derived.Lib.SliceRun
import Derived.WalkSpells
import Derived.WalkLawsBesides
import Derived.LoopN
set_option maxRecDepth 100000
set_option maxHeartbeats 8000000
namespace Go.Words
open Go Go.RowKit Go.Mesh
def RTri:Rep T3:=fun _ _ t cs=>cs=[.int .i64 t.1,.int .i64 t.2.1,.int .i64 t.2.2]
theorem zaaq:Keeps RTri:=⟨fun h _ _=>h⟩
theorem Sl.tri_at{w:World}{B n cap k:Nat}{A:Option Addr}{l:List T3}(h:Sl 3 RTri w B (.slice A n cap) l)(hk:k<l.length) :
  ∃b o,A=some ⟨b,o,none⟩/\b<B/\w.cell? ⟨b,o+k*3,none⟩=some (.int .i64 l[k].1)/\w.cell? ⟨b,o+k*3+1,none⟩=some (.int .i64 l[k].2.1)/\w.cell? ⟨b,o+k*3+2,none⟩=some (.int .i64 l[k].2.2):=by
 obtain⟨b,o,f,d,e,g,c,a⟩:=h.at_ (zG hk);unfold RTri at c;subst c;exact⟨b,o,d,e,by simpa using a 0 _ rfl,a 1 _ rfl,a 2 _ rfl⟩
def Zal(l:List T3):List Value:=l.flatMap fun t=>[.int .i64 t.1,.int .i64 t.2.1,.int .i64 t.2.2]
theorem Zfk(l:List T3)(x:T3):Zal (l++[x])=Zal l++[.int .i64 x.1,.int .i64 x.2.1,.int .i64 x.2.2]:=by unfold Zal;rw[List.flatMap_append];rfl
end Go.Words
namespace Go.Mesh
def InR(N:Int)(t:T3):Prop:=(0<=t.1/\t.1<N)/\(0<=t.2.1/\t.2.1<N)/\(0<=t.2.2/\t.2.2<N)
def Za6(N:Int)(T:List T3):Prop:=0<=N/\N<=4096/\T.length<=8192/\∀t∈T,InR N t
def Za5(t:T3):Prop:=t.1≠t.2.1/\t.2.1≠t.2.2/\t.2.2≠t.1
end Go.Mesh
namespace Go.Proofs.YtpbdcppaiafbgaaGreat
open Go Go.RowKit Go.Words Go.Mesh
theorem mixed:Tryz.prog.follows .mixedOrders=true:=by kernel_rfl
theorem Zkq:(Tryz.prog.info? 48).map (fun i=>(i.zero,i.size,i.bytes))=some (some (.agg #[.int .i64 0,.int .i64 0,.int .i64 0]),3,24):=by kernel_rfl
theorem tri0(x y z:Value)(w:World):(Instr.index 57 (.agg #[x,y,z]) (.int .i64 0)).run Tryz.prog w=.ok x w:=by kernel_rfl
theorem tri1(x y z:Value)(w:World):(Instr.index 57 (.agg #[x,y,z]) (.int .i64 1)).run Tryz.prog w=.ok y w:=by kernel_rfl
theorem tri2(x y z:Value)(w:World):(Instr.index 57 (.agg #[x,y,z]) (.int .i64 2)).run Tryz.prog w=.ok z w:=by kernel_rfl
def Wits(w:World)(base:Nat)(v:Value)(kind:Int)(good:Prop):Prop:=∃L:List T3,w.ownsRow base 48 3 v L.length (Zal L)/\(L=[]↔good)/\(∀x∈L,x.1=kind)/\L.length<=603979776
theorem Zoh(v:Value)(N:Int)(T:List T3)(w:World){B:Nat}(hB0:B<=w.heap.size)(h:Sl 3 RTri w B v T)(hN:-9223372036854775808<=N/\N<=9223372036854775807) :
  Calls Tryz.prog 145 #[.agg #[.int .i64 N,v]] w fun e w'=>(∃v',e=.returned v'/\Wits w' w.heap.size v' 1 (Za6 N T))/\Below w.heap.size w w':=by
 obtain⟨A,H,rfl,ax⟩:=h.form;have d:=Bk.new w 24 [.int .i64 N,.slice A T.length H];have a5:=(zr w.heap.size w).alloc zl (.cells #[.int .i64 N,.slice A T.length H] 24);have Hh:=zz h;clear h;by_cases hp:0<=N/\N<=4096/\T.length<=8192
 case neg =>
  have V:¬Za6 N T:=fun a=>hp ⟨a.1,a.2.1,a.2.2.1⟩
  have a0:=zz V;clear V;go_enter Tryz.func145,Tryz.ntmps145;go_wp2;all_goals try omega
  all_goals
   go_ret;refine⟨⟨_,rfl,[(1,-1,0)],?_,⟨fun a=>(by cases a),fun a=>absurd a a0.out⟩,by simp,by simp⟩,a5.alloc (by rw[World.size_alloc];omega) _⟩;have a:=World.ownsRow_lit (e:=48) (base:=w.heap.size) (size:=3) (w.alloc (.cells #[.int .i64 N,.slice A T.length H] 24)) #[.int .i64 1,.int .i64 (-1),.int .i64 0] 1 (by rw[World.size_alloc];omega) (by unfold maxLen;omega) rfl;rw[World.size_alloc]at a;exact a
 case pos =>
  obtain⟨p1,p2,p3⟩:=hp;have HX:True:=trivial;have C:=zz d;clear d;go_enter Tryz.func145,Tryz.ntmps145;go_wp2;all_goals try omega
  go_loopw[3,27] (fun l i wr=>∃(k:Nat) (L:List T3),k<=T.length/\i=.int .i64 k/\wr.ownsRow (w.heap.size+1) 48 3 l L.length (Zal L)/\(L=[]↔∀t∈T.take k,InR N t)/\(∀x∈L,x.1=1)/\L.length<=k /\
    Bk wr w.heap.size 24 [.int .i64 N,.slice A T.length H]/\Below w.heap.size w wr)
   (fun _ i _=>T.length-(intOf i).toNat)
  case atStart=>exact⟨0,[],by omega,rfl,zn _ _ _ _,by simp,by simp,by simp,C.out,a5⟩
  case round =>
   obtain⟨k,L,hk,rfl,r,O,u,ay,d,D⟩:=hrel;have hz:=D.size;have az:=d.lt;by_cases a9:k<T.length
   ·obtain⟨b,o,rfl,hb,c1,c2,c3⟩:=(Hh.out.below zaaq (D.mono hB0)).tri_at a9;have X:T.take (k+1)=T.take k++[T[k]]:=zT a9;have a8:(∀t∈T.take (k+1),InR N t)↔(∀t∈T.take k,InR N t)/\InR N T[k]:=by
     rw[X];simp only[zP,zU];exact⟨fun a=>⟨fun t ht=>a t (.inl ht),a _ (.inr rfl)⟩,fun a t ht=>ht.elim (a.1 t) fun e=>e ▸ a.2⟩
    generalize hx:T[k]=x at *;obtain⟨g,m,n⟩:=x;simp only[]at c1 c2 c3;have E:=d.alloc (.cells #[.int .i64 g,.int .i64 m,.int .i64 n] 57);have o1:=r.alloc (.cells #[.int .i64 g,.int .i64 m,.int .i64 n] 57);have U:=D.alloc hz (.cells #[.int .i64 g,.int .i64 m,.int .i64 n] 57);obtain⟨A5,ag,rfl,ap⟩:=zaeq r;have d1:(wr.alloc (.cells #[.int .i64 g,.int .i64 m,.int .i64 n] 57)).cell? ⟨w.heap.size,0,none⟩=some (.int .i64 N):=E.cell 0;have b6:b<wr.heap.size:=by omega
    obtain⟨K,a3,p,av,Q,b5,C,y,G⟩:=zz9 r O u X a8 hx d E o1;clear r O u X a8 hx d E o1;go_wp2_with fail;clear c1 c2 c3;obtain⟨wo,Y⟩:∃wo:World,wo=wr.alloc (.cells #[.int .i64 g,.int .i64 m,.int .i64 n] 57):=⟨_,rfl⟩;have b8:wr.heap.size+1<=wo.heap.size:=by rw[Y];simp
    rw[<- Y]at d1 U G y ⊢;clear Y;go_loopw[3,33] (fun l i wi=>∃j:Int,0<=j/\j<=3/\i=.int .i64 j/\l=.slice A5 L.length ag/\(0<j->0<=g/\g<N)/\(1<j->0<=m/\m<N)/\(2<j->0<=n/\n<N)/\wi=wo) (fun _ i _=>3-(intOf i).toNat)
    case atStart=>exact⟨0,by omega,by omega,rfl,rfl,by omega,by omega,by omega,rfl⟩
    case round =>
     obtain⟨j,b7,hj,rfl,rfl,J,M,S,rfl⟩:=hrel;have a4:∀(P:Value) (F:World),¬InR N (g,m,n)->F.ownsRow (w.heap.size+1) 48 3 P (L.length+1) (Zal L++[.int .i64 1,.int .i64 (k:Int),.int .i64 0])->Below (w.heap.size+1) (wr.alloc (.cells #[.int .i64 1,.int .i64 k,.int .i64 0] 48)) F ->
       F.ownsRow (w.heap.size+1) 48 3 P (L++[(1,(k:Int),0)]).length (Zal (L++[(1,(k:Int),0)]))/\(L++[(1,(k:Int),0)]=[]↔∀t∈T.take (k+1),InR N t)/\(∀x∈L++[(1,(k:Int),0)],x.1=1)/\(L++[(1,(k:Int),0)]).length<=k+1 /\
        Bk F w.heap.size 24 [.int .i64 N,.slice (some ⟨b,o,none⟩) T.length H]/\Below w.heap.size w F:=by
      intro P F z ho s;refine⟨by rw[Zfk,zA];exact ho,⟨fun a=>by simp at a,fun a=>absurd (Q.out.1 a).2 z⟩,fun x hx=>?_,by simp;omega,(y.out.alloc _).below s (by omega),(U.alloc (by omega) _).trans (s.mono (by omega))⟩;rcases zP.1 hx with a|a
      ·exact p.out x a
      ·have:x=(1,(k:Int),0):=by simpa using a
       rw[this]
     have good:InR N (g,m,n)->(L=[]↔∀t∈T.take (k+1),InR N t):=fun a=>by rw[Q.out,a3.out];exact⟨fun h8=>⟨h8,a⟩,fun h8=>h8.1⟩
     have I:=Lib.hid a4;have Z:=Lib.hid good;clear a4 good;have b9:=tri0;have ba:=tri1;have bb:=tri2;have ak:j=0\/j=1\/j=2\/j=3:=by omega
     rcases ak with rfl|rfl|rfl|rfl
     ·clear J M S;by_cases q:0<=g/\g<N
      ·have aa:=q.1;have ac:=q.2;go_wp2;all_goals try omega
       exact⟨⟨1,by omega,by omega,rfl,rfl,fun _=>q,by omega,by omega,by first|rfl|trivial⟩,by simp[intOf]⟩
      ·have z:¬InR N (g,m,n):=fun a=>q a.1
       have R:=Lib.hid z;clear z;go_wp2_with(at_builtin;refine zajq _ rfl (.tmp 44) (.tmp 47) 160 rfl (w.heap.size+1) Zkq Tryz.underlying160 rfl (by omega) _ L.length (Zal L) rfl (G.out.alloc _) wr.heap.size [.int .i64 1,.int .i64 k,.int .i64 0] rfl (Bk.new _ _ _) rfl (by simp[Value.oneCell']) (by omega) (by omega) (by simp;omega) ?_;intro P F c s _ _;have f:=zz c;clear c);all_goals exact⟨⟨k+1,_,by omega,by simp,I.out _ _ R.out f.out s⟩,by simp[intOf];omega⟩
     ·have G1:=Lib.hid (J (by omega));clear J M S;by_cases q:0<=m/\m<N
      ·have aa:=q.1;have ac:=q.2;go_wp2;all_goals try omega
       exact⟨⟨2,by omega,by omega,rfl,rfl,fun _=>G1.out,fun _=>q,by omega,by first|rfl|trivial⟩,by simp[intOf]⟩
      ·have z:¬InR N (g,m,n):=fun a=>q a.2.1
       have R:=Lib.hid z;clear z;go_wp2_with(at_builtin;refine zajq _ rfl (.tmp 44) (.tmp 47) 160 rfl (w.heap.size+1) Zkq Tryz.underlying160 rfl (by omega) _ L.length (Zal L) rfl (G.out.alloc _) wr.heap.size [.int .i64 1,.int .i64 k,.int .i64 0] rfl (Bk.new _ _ _) rfl (by simp[Value.oneCell']) (by omega) (by omega) (by simp;omega) ?_;intro P F c s _ _;have f:=zz c;clear c);all_goals exact⟨⟨k+1,_,by omega,by simp,I.out _ _ R.out f.out s⟩,by simp[intOf];omega⟩
     ·have G1:=Lib.hid (J (by omega));have G2:=Lib.hid (M (by omega));clear J M S;by_cases q:0<=n/\n<N
      ·have aa:=q.1;have ac:=q.2;go_wp2;all_goals try omega
       exact⟨⟨3,by omega,by omega,rfl,rfl,fun _=>G1.out,fun _=>G2.out,fun _=>q,by first|rfl|trivial⟩,by simp[intOf]⟩
      ·have z:¬InR N (g,m,n):=fun a=>q a.2.2
       have R:=Lib.hid z;clear z;go_wp2_with(at_builtin;refine zajq _ rfl (.tmp 44) (.tmp 47) 160 rfl (w.heap.size+1) Zkq Tryz.underlying160 rfl (by omega) _ L.length (Zal L) rfl (G.out.alloc _) wr.heap.size [.int .i64 1,.int .i64 k,.int .i64 0] rfl (Bk.new _ _ _) rfl (by simp[Value.oneCell']) (by omega) (by omega) (by simp;omega) ?_;intro P F c s _ _;have f:=zz c;clear c);all_goals exact⟨⟨k+1,_,by omega,by simp,I.out _ _ R.out f.out s⟩,by simp[intOf];omega⟩
     ·have W:InR N (g,m,n):=⟨J (by omega),M (by omega),S (by omega)⟩;have Hg:=Lib.hid (Z.out W);clear W J M S;have a6:=y.out;have ae:=zz a6;clear a6;go_wp2;exact⟨⟨k+1,L,by omega,by simp,G.out,Hg.out,p.out,by omega,ae.out,U⟩,by simp[intOf];omega⟩
   ·have am:k=T.length:=by omega
    subst am;rw[List.take_length]at O;have a7:L=[]↔Za6 N T:=by rw[O];exact⟨fun a=>⟨p1,p2,p3,a⟩,fun a=>a.2.2.2⟩
    obtain⟨K,a3,af,p,C⟩:=zz5 r O a7 u d;clear r O a7 u d;go_wp2;go_ret;exact⟨⟨_,rfl,L,zalq K.out (by omega),af.out,p.out,by omega⟩,D⟩
open Go Go.RowKit Go.Words Go.Mesh
theorem loop_calls(v:Value)(N:Int)(T:List T3)(w:World){B:Nat}(hB0:B<=w.heap.size)(h:Sl 3 RTri w B v T)(p3:T.length<=8192) :
  Calls Tryz.prog 146 #[.agg #[.int .i64 N,v]] w fun e w'=>(∃v',e=.returned v'/\Wits w' w.heap.size v' 2 (∀t∈T,Za5 t))/\Below w.heap.size w w':=by
 obtain⟨A,Q,rfl,a4⟩:=h.form;have R:=(zr w.heap.size w).alloc zl (.cells #[.int .i64 N,.slice A T.length Q] 24);have X:=zz h;clear h;go_enter Tryz.func146,Tryz.ntmps146;go_wp2;go_loopw[3,9] (fun l i wr=>∃(k:Nat) (L:List T3),k<=T.length/\i=.int .i64 k/\wr.ownsRow w.heap.size 48 3 l L.length (Zal L)/\(L=[]↔∀t∈T.take k,Za5 t)/\(∀x∈L,x.1=2)/\L.length<=k/\Below w.heap.size w wr)
  (fun _ i _=>T.length-(intOf i).toNat)
 case atStart=>exact⟨0,[],by omega,rfl,zn _ _ _ _,by simp,by simp,by simp,R⟩
 case round =>
  obtain⟨k,L,hk,rfl,f,m,a,a5,j⟩:=hrel;have hz:=j.size;by_cases K:k<T.length
  ·obtain⟨b,o,rfl,hb,Z,c2,c3⟩:=(X.out.below zaaq (j.mono hB0)).tri_at K;have E:T.take (k+1)=T.take k++[T[k]]:=zT K;have g:(∀t∈T.take (k+1),Za5 t)↔(∀t∈T.take k,Za5 t)/\Za5 T[k]:=by
    rw[E];simp only[zP,zU];exact⟨fun d=>⟨fun t n=>d t (.inl n),d _ (.inr rfl)⟩,fun d t n=>n.elim (d.1 t) fun e=>e ▸ d.2⟩
   generalize F:T[k]=x at *;obtain⟨q,p,r⟩:=x;simp only[]at Z c2 c3;have J:=j.alloc hz (.cells #[.int .i64 q,.int .i64 p,.int .i64 r] 57);have V:=f.alloc (.cells #[.int .i64 q,.int .i64 p,.int .i64 r] 57);obtain⟨A5,a2,rfl,W⟩:=zaeq f;have aa:b<wr.heap.size:=by omega
   obtain⟨s,a9,Y,G⟩:=zz4 f F E V;clear f F E V;by_cases n:q≠p/\p≠r/\r≠q
   ·have I:L=[]↔∀t∈T.take (k+1),Za5 t:=by rw[g,m];exact⟨fun h8=>⟨h8,n⟩,fun h8=>h8.1⟩
    obtain⟨t1,t2,t3⟩:=n;obtain⟨P,z,O,c⟩:=zz4 g m I a;clear g m I a;go_wp2;exact⟨⟨k+1,L,by omega,by simp,G.out,O.out,c.out,by omega,J⟩,by simp[intOf];omega⟩
   ·have H:L++[(2,(k:Int),0)]=[]↔∀t∈T.take (k+1),Za5 t:=⟨fun d=>by simp at d,fun d=>absurd (g.1 d).2 n⟩;have y:∀x∈L++[(2,(k:Int),0)],x.1=2:=by
     intro x F;rcases zP.1 F with d|d
     ·exact a x d
     ·have:x=(2,(k:Int),0):=by simpa using d
      rw[this]
    have h3:q=p\/(q≠p/\(p=r\/(p≠r/\r=q))):=by omega
    obtain⟨P,z,c,M,D⟩:=zz5 g m a H y;clear g m a H y;clear n;rcases h3 with rfl|⟨t1,rfl|⟨t2,rfl⟩⟩
    all_goals
     go_wp2_with(at_builtin;refine zajq _ rfl (.tmp 33) (.tmp 36) 160 rfl w.heap.size Zkq Tryz.underlying160 rfl (by omega) _ L.length (Zal L) rfl (G.out.alloc _) (wr.heap.size+1) [.int .i64 2,.int .i64 k,.int .i64 0] rfl (Bk.new' _ _ (by simp)) rfl (by simp[Value.oneCell']) (by omega) (by omega) (by simp;omega) ?_;intro v1 w1 u S _ _;have C:=zz u;clear u);exact⟨⟨k+1,_,by omega,by simp,by rw[Zfk,zA];exact C.out,M.out,D.out,by simp;omega,(J.alloc (by simp;omega) _).trans S⟩,by simp[intOf];omega⟩
  ·have U:k=T.length:=by omega
   subst U;rw[List.take_length]at m;obtain⟨s,z,c⟩:=zz3 f m a;clear f m a;go_wp2;go_ret;exact⟨⟨_,rfl,L,s.out,z.out,c.out,by omega⟩,j⟩
end Go.Proofs.YtpbdcppaiafbgaaGreat
namespace Go.Words
open Go Go.RowKit
theorem Zaq{P:Program}(t:TypeId){e:TypeId}{z:Value}{bytes:Nat}(ht:P.underlying t=some (.slice e))(hinfo:(P.info? e).map (fun i=>(i.zero,i.size,i.bytes))=some (some z,1,bytes))(hzc:z.cells=#[z])
  (n:Nat) (hn:n<=1000000) (hb:bytes<=1000) (w:World) :
  (Instr.makeSlice t (.int .i64 (n:Int)) (.int .i64 (n:Int))).run P w=.ok (.slice (some ⟨w.heap.size,0,none⟩) n n) (w.alloc (.cells (List.replicate n z).toArray e)):=by
 obtain⟨a,hi,c,d,f⟩:=info_parts hinfo;have g:bytes*n<=281474976710656:=by
  have:bytes*n<=1000*1000000:=Nat.mul_le_mul hb hn;omega
 have h:(a.bytes:Int)*(n:Int)<=281474976710656:=by
  have h:((a.bytes*n:Nat):Int)<=281474976710656:=by rw[f];omega
  rwa [Int.natCast_mul]at h
 have b:=run_make (P:=P) w t e a z ht hi c .i64 .i64 n n (by omega) (by omega) h (by omega);simp only[zC]at b;rw[b,d,hzc,Nat.mul_one,<- toList_madeCells_one]
end Go.Words
namespace Go.Mesh
def HasV(t:T3)(v:Int):Prop:=v=t.1\/v=t.2.1\/v=t.2.2
def bvals(M:List Bool):List Value:=M.map fun b=>.bool b
theorem Zft(M:List Bool)(i:Nat):(bvals M).set i (.bool true)=bvals (M.set i true):=by unfold bvals;rw[List.map_set]
theorem Zu8(M:List Bool)(a i:Nat)(ha:a<M.length):((M.set a true).getD i false=true)↔(i=a\/M.getD i false=true):=by
 rw[zD,zD,List.getElem?_set];by_cases h:a=i
 ·subst h;simp[ha]
 ·simp only[h,if_false];exact⟨.inr,fun h9=>h9.resolve_left fun e=>h e.symm⟩
theorem marks_none(n u:Nat):(List.replicate n false).getD u false=false:=by
 rw[zD,List.getElem?_replicate];split<;>rfl
end Go.Mesh
namespace Go.Proofs.YtpbdcppaiafbgaaGreat
open Go Go.RowKit Go.Words Go.Mesh
theorem Zlz:(Tryz.prog.info? 4).map (fun i=>(i.zero,i.size,i.bytes))=some (some (.bool false),1,1):=by kernel_rfl
theorem lonely_calls(v:Value)(n:Nat)(T:List T3)(w:World){B:Nat}(hB0:B<=w.heap.size)(h:Sl 3 RTri w B v T)(hp:Za6 n T) :
  Calls Tryz.prog 149 #[.agg #[.int .i64 (n:Int),v]] w fun e w'=>(∃v',e=.returned v'/\Wits w' w.heap.size v' 5 (∀u:Nat,u<n->∃t∈T,HasV t u))/\Below w.heap.size w w':=by
 obtain⟨A,af,rfl,bc⟩:=h.form;obtain⟨p1,p2,p3,p4⟩:=hp;have b0:=(zr w.heap.size w).alloc zl (.cells #[.int .i64 n,.slice A T.length af] 24);have b2:=Zaq (P:=Tryz.prog) 130 Tryz.underlying130 Zlz rfl n (by omega) (by omega);have a6:List.replicate n (Value.bool false)=bvals (List.replicate n false):=by unfold bvals;rw[List.map_replicate]
 have a5:=Bk.new' (n:=w.heap.size+1) (w:=w.alloc (.cells #[.int .i64 n,.slice A T.length af] 24)) 4 (List.replicate n (.bool false)) (by simp);have b1:=b0.alloc (by simp) (.cells (List.replicate n (.bool false)).toArray 4);obtain⟨Hh,aw,aa,a9⟩:=zz4 h p4 a6 a5;clear h p4 a6 a5;go_enter Tryz.func149,Tryz.ntmps149;go_wp2;clear b2;go_loopw[17] (fun i wr=>∃(k:Nat) (M:List Bool),k<=T.length/\i=.int .i64 k/\M.length=n/\(∀u:Nat,M.getD u false=true↔∃t∈T.take k,HasV t u)/\Bk wr (w.heap.size+1) 4 (bvals M)/\Below w.heap.size w wr)
  (fun i _=>T.length-(intOf i).toNat)
 case atStart=>exact⟨0,_,by omega,rfl,List.length_replicate,fun u=>by rw[marks_none];simp,by rw[<- aa.out];exact a9.out,b1⟩
 case round =>
  obtain⟨k,M,hk,rfl,a4,S,c,C⟩:=hrel;have hz:=C.size;have be:=c.lt;by_cases N:k<T.length
  ·obtain⟨b,o,rfl,hb,c1,c2,c3⟩:=(Hh.out.below zaaq (C.mono hB0)).tri_at N;have a7:T.take (k+1)=T.take k++[T[k]]:=zT N;have Y:∀u:Nat,(∃t∈T.take (k+1),HasV t u)↔(∃t∈T.take k,HasV t u)\/HasV T[k] u:=by
    intro u;rw[a7];simp only[zP,zU];constructor
    ·rintro⟨t,ht|rfl,a⟩
     ·exact .inl ⟨t,ht,a⟩
     ·exact .inr a
    ·rintro(⟨t,ht,a⟩|a)
     ·exact⟨t,.inl ht,a⟩
     ·exact⟨_,.inr rfl,a⟩
   have hr:=aw.out _ (zM N);generalize hx:T[k]=x at *;obtain⟨x1,x2,x3⟩:=x;unfold InR at hr;simp only[]at c1 c2 c3 hr;obtain⟨⟨r1,r2⟩,⟨r3,r4⟩,⟨r5,r6⟩⟩:=hr;obtain⟨r,rfl⟩:=Int.eq_ofNat_of_zero_le r1;obtain⟨z,rfl⟩:=Int.eq_ofNat_of_zero_le r3;obtain⟨I,rfl⟩:=Int.eq_ofNat_of_zero_le r5;have J:=C.alloc hz (.cells #[.int .i64 r,.int .i64 z,.int .i64 I] 57);have p:=c.alloc (.cells #[.int .i64 r,.int .i64 z,.int .i64 I] 57);have bp:b<wr.heap.size:=by omega
   have q1:=fun u=>Zu8 ((M.set r true).set z true) I u (by simp;omega)
   have q2:=fun u=>Zu8 (M.set r true) z u (by simp;omega)
   have q3:=fun u=>Zu8 M r u (by omega)
   have ag:∀u:Nat,(((M.set r true).set z true).set I true).getD u false=true↔∃t∈T.take (k+1),HasV t u:=by
    intro u;rw[q1,q2,q3,Y,S];unfold HasV;simp only[];constructor
    ·rintro(rfl|rfl|rfl|a)
     ·exact .inr (.inr (.inr rfl))
     ·exact .inr (.inr (.inl rfl))
     ·exact .inr (.inl rfl)
     ·exact .inl a
    ·rintro(a|a|a|a)
     ·exact .inr (.inr (.inr a))
     ·exact .inr (.inr (.inl (by omega)))
     ·exact .inr (.inl (by omega))
     ·exact .inl (by omega)
   have bt:=tri0;have bu:=tri1;have bv:=tri2;obtain⟨bl,ba,b7,U,aj,bm,bn,bo,m,H⟩:=zz10 hx a7 Y S ag q1 q2 q3 c p;clear hx a7 Y S ag q1 q2 q3 c p;go_wp2_with fail;clear c1 c2 c3;obtain⟨D,Q⟩:∃D:World,D=wr.alloc (.cells #[.int .i64 r,.int .i64 z,.int .i64 I] 57):=⟨_,rfl⟩;rw[<- Q]at J H ⊢;have p:=H.out;have bs:wr.heap.size+1<=D.heap.size:=by rw[Q];simp
   clear Q;have F:=p.set r (.bool true);have G:=F.set z (.bool true);have Z:=G.set I (.bool true);rw[Zft,Zft,Zft]at Z;have bq:(bvals M).length=n:=by unfold bvals;simp[a4]
   have f1:=p.frozen;have f2:=F.frozen;have f3:=G.frozen;obtain⟨u1,d1⟩:∃u,D.cell? ⟨w.heap.size+1,r,none⟩=some u:=by
    rw[p.cell];exact⟨_,zG (by omega)⟩
   obtain⟨u2,d2⟩:∃u,(D.setCell ⟨w.heap.size+1,r,none⟩ (.bool true)).cell? ⟨w.heap.size+1,z,none⟩=some u:=by
    rw[F.cell];exact⟨_,zG (by simp;omega)⟩
   obtain⟨u3,d3⟩:∃u,((D.setCell ⟨w.heap.size+1,r,none⟩ (.bool true)).setCell ⟨w.heap.size+1,z,none⟩ (.bool true)).cell? ⟨w.heap.size+1,I,none⟩=some u:=by
    rw[G.cell];exact⟨_,zG (by simp;omega)⟩
   obtain⟨H,b8,b9,ak⟩:=zz4 p F G Z;clear p F G Z;refine wp_loop_rounds 4 ?_;rw[rounds_succ];go_wp2;rw[rounds_succ];go_wp2;rw[rounds_succ];go_wp2;rw[rounds_succ];go_wp2;exact⟨⟨k+1,_,by omega,by simp,by simp[a4],aj.out,ak.out,((J.setCell (by simp) _).setCell (by simp) _).setCell (by simp) _⟩,by simp[intOf];omega⟩
  ·have a0:k=T.length:=by omega
   subst a0;rw[List.take_length]at S;obtain⟨D,Q⟩:∃D:World,D=wr:=⟨_,rfl⟩;obtain⟨U,m⟩:=zz2 S c;clear S c;go_wp2;have HX:True:=trivial;go_loopw[8,32] (fun l i wi=>∃(k:Nat) (L:List T3),k<=n/\i=.int .i64 k/\wi.ownsRow (w.heap.size+2) 48 3 l L.length (Zal L)/\(L=[]↔∀u:Nat,u<k->M.getD u false=true)/\(∀x∈L,x.1=5)/\L.length<=k /\
     Bk wi (w.heap.size+1) 4 (bvals M)/\Below w.heap.size w wi)
    (fun _ i _=>n-(intOf i).toNat)
   case atStart=>exact⟨0,[],by omega,rfl,zn _ _ _ _,by simp,by simp,by simp,m.out,C⟩
   case round =>
    obtain⟨k,L,hk,rfl,f,E,d,br,c,K⟩:=hrel;have b3:=K.size;have bg:=c.lt;by_cases N:k<n
    ·have d1:wr.cell? ⟨w.heap.size+1,k,none⟩=some (.bool (M.getD k false)):=by
      rw[c.cell];unfold bvals;rw[zJ,zG (by omega),zD,zG (by omega)];rfl
     have q:(∀u:Nat,u<k+1->M.getD u false=true)↔(∀u:Nat,u<k->M.getD u false=true)/\M.getD k false=true :=
      ⟨fun a=>⟨fun u hu=>a u (by omega),a k (by omega)⟩,fun a u hu=>if he:u=k then he ▸ a.2 else a.1 u (by omega)⟩
     obtain⟨A5,bb,rfl,b5⟩:=zaeq f;cases s:M.getD k false
     ·rw[s]at d1 q;have ae:L++[(5,(k:Int),0)]=[]↔∀u:Nat,u<k+1->M.getD u false=true:=⟨fun a=>by simp at a,fun a=>by have:=(q.1 a).2;cases this⟩;have R:∀x∈L++[(5,(k:Int),0)],x.1=5:=by
       intro x hx;rcases zP.1 hx with a|a
       ·exact d x a
       ·have:x=(5,(k:Int),0):=by simpa using a
        rw[this]
      have X:=c.alloc (.cells #[.int .i64 5,.int .i64 k,.int .i64 0] 48);have J:=K.alloc b3 (.cells #[.int .i64 5,.int .i64 k,.int .i64 0] 48);obtain⟨j,ad,g,m,an,am,ai,W,a8⟩:=zz9 f E d c q s ae R X;clear f E d c q s ae R X;go_wp2_with(at_builtin;refine zajq _ rfl (.tmp 39) (.tmp 42) 160 rfl (w.heap.size+2) Zkq Tryz.underlying160 rfl (by omega) _ L.length (Zal L) rfl (j.out.alloc _) wr.heap.size [.int .i64 5,.int .i64 k,.int .i64 0] rfl (Bk.new _ _ _) rfl (by simp[Value.oneCell']) (by omega) (by omega) (by simp;omega) ?_;intro v1 w1 O ah _ _;have V:=zz O;clear O);exact⟨⟨k+1,_,by omega,by simp,by rw[Zfk,zA];exact V.out,ai.out,W.out,by simp;omega,a8.out.below ah (by omega),J.trans (ah.mono (by omega))⟩,by simp[intOf];omega⟩
     ·rw[s]at d1 q;have good:L=[]↔∀u:Nat,u<k+1->M.getD u false=true:=by rw[q,E];exact⟨fun a=>⟨a,rfl⟩,fun a=>a.1⟩
      obtain⟨j,ad,g,m,an,am,y⟩:=zz7 f E d c q s good;clear f E d c q s good;go_wp2;exact⟨⟨k+1,L,by omega,by simp,j.out,y.out,g.out,by omega,m.out,K⟩,by simp[intOf];omega⟩
    ·have a0:k=n:=by omega
     subst a0;have good:L=[]↔∀u:Nat,u<k->∃t∈T,HasV t u:=by
      rw[E];exact⟨fun a u hu=>(U.out u).1 (a u hu),fun a u hu=>(U.out u).2 (a u hu)⟩
     obtain⟨j,ad,g,m,y⟩:=zz5 f E d c good;clear f E d c good;go_wp2;go_ret;exact⟨⟨_,rfl,L,zalq j.out (by omega),y.out,g.out,by omega⟩,K⟩
end Go.Proofs.YtpbdcppaiafbgaaGreat
namespace Go.Mesh
def Zoj(t:T3):List T3:=[(t.1,t.2.1,0),(t.2.1,t.2.2,0),(t.2.2,t.1,0)]
end Go.Mesh
namespace Go.Proofs.YtpbdcppaiafbgaaGreat
open Go Go.RowKit Go.Words Go.Mesh
theorem Zeh(l:List T3):∀(i:Nat) (b:T3),l[i]? = some b->((Zal l).drop (i*3)).take 3=[.int .i64 b.1,.int .i64 b.2.1,.int .i64 b.2.2]:=by
 induction l with
 | nil=>intro i b h;simp at h
 | cons x l ih =>
  intro i b h;cases i with
  | zero =>
   simp only[List.getElem?_cons_zero,Option.some.injEq]at h;subst h;rfl
  | succ i =>
   rw[List.getElem?_cons_succ]at h;have:=ih i b h;unfold Zal at this ⊢;rw[List.flatMap_cons,Nat.succ_mul,Nat.add_comm (i*3) 3,<- List.drop_drop];exact this
theorem Za2(l:List T3):(Zal l).length=l.length*3:=by
 induction l with
 | nil=>rfl
 | cons x l ih =>
  unfold Zal at ih ⊢;rw[List.flatMap_cons,zA,ih,List.length_cons];simp;omega
theorem Zqh{w:World}{g:Nat}{t:TypeId}{l:List T3}(hb:Bk w g t (Zal l)){cap:Nat}(hc:l.length<=cap):Sl 3 RTri w w.heap.size (.slice (some ⟨g,0,none⟩) l.length cap) l :=
 Sl.of_block hb hc fun i a hi=>by
  have b:=(zS.1 hi).1;refine⟨by rw[Za2];omega,Zeh l i a hi⟩
theorem twicekeys_calls(t:T3)(w:World) :
  Calls Tryz.prog 165 #[.agg #[.int .i64 t.1,.int .i64 t.2.1,.int .i64 t.2.2]] w fun e w'=>(∃v',e=.returned v'/\Sl 3 RTri w' w'.heap.size v' (Zoj t))/\Below w.heap.size w w':=by
 obtain⟨a,b,c⟩:=t;go_enter Tryz.func165,Tryz.ntmps165;go_wp2;go_ret;refine⟨⟨_,rfl,?_⟩,(by repeat (first|exact zr _ _|assumption|refine Below.drew ?_|refine Below.setCell ?_ (by first|omega|(simp<;>omega)) _|refine Below.alloc ?_ (by first|omega|(simp<;>omega)) _|refine zaiq ?_ _))⟩;have:=Zqh (l:=Zoj (a,b,c)) (cap:=3) (Bk.new' (n:=w.heap.size+1) (w:=w.alloc (.cells #[.int .i64 a,.int .i64 b,.int .i64 c] 57)) 56 (Zal (Zoj (a,b,c))) (by simp)) zl;exact this
end Go.Proofs.YtpbdcppaiafbgaaGreat
namespace Go.Words
open Go Go.RowKit
theorem Bk.kept_own{w w':World}{g base n size:Nat}{t e:TypeId}{cs xs:List Value}{v:Value}(h:Bk w g t cs)(hown:w.ownsRow base e size v n xs)(hne:e≠t)(hg:w.grownBy w' v.ownBlock):Bk w' g t cs:=by
 refine h.grown hg fun he=>?_
 rcases hown.2 with⟨rfl,_⟩|⟨d,b,c,rfl,_,a,_⟩
 ·simp[Value.ownBlock]at he
 ·have:g=d:=by simpa[Value.ownBlock]using he
  subst this;unfold Bk at h;rw[h]at a;injection a with h2;injection h2 with _ h3;exact hne h3.symm
theorem Bk.kept_map{w w':World}{g b:Nat}{t:TypeId}{cs:List Value}{κ α:Type}{enc:κ->Value}{ok:κ->Prop}{ev:α->Value}{l:List (κ×α)}(h:Bk w g t cs)(hm:Mp enc ok ev w b l)(hg:w.grownBy w' (some b)):Bk w' g t cs:=by
 refine h.grown hg fun he=>?_
 injection he with he;subst he;obtain⟨d,c,a,_⟩:=hm.block;unfold Bk at h;rw[h]at a;cases a
theorem Mp.kept_own{w w':World}{b base n size:Nat}{e:TypeId}{xs:List Value}{v:Value}{κ α:Type}{enc:κ->Value}{ok:κ->Prop}{ev:α->Value}{l:List (κ×α)}(h:Mp enc ok ev w b l)(hown:w.ownsRow base e size v n xs)(hg:w.grownBy w' v.ownBlock):Mp enc ok ev w' b l :=
 h.grown hg (h.no_row hown)
theorem zatq{w w':World}{b base n size:Nat}{e:TypeId}{xs:List Value}{v:Value}{κ α:Type}{enc:κ->Value}{ok:κ->Prop}{ev:α->Value}{l:List (κ×α)}(hown:w.ownsRow base e size v n xs)(h:Mp enc ok ev w b l)(hg:w.grownBy w' (some b)):w'.ownsRow base e size v n xs :=
 hown.kept hg (.inr fun e=>h.no_row hown e.symm)
theorem GRows.kept_map{w w':World}{b base:Nat}{e:TypeId}{κ κ' α:Type}{lm:List (κ'×Value)}{G:List (κ'×List Nat)}{enc:κ->Value}{ok:κ->Prop}{ev:α->Value}{l:List (κ×α)}(h:GRows w base e lm G)(hm:Mp enc ok ev w b l)(hg:w.grownBy w' (some b)):GRows w' base e lm G:=by
 obtain⟨d,a,c,_⟩:=hm.block;exact h.kept hg (h.fam.not_map c)
theorem GRows.kept_own{w w':World}{base base' size n:Nat}{e e':TypeId}{κ':Type}{lm:List (κ'×Value)}{G:List (κ'×List Nat)}{v:Value}{xs:List Value}(h:GRows w base e lm G)(hown:w.ownsRow base' e' size v n xs)(hne:e'≠e)(hg:w.grownBy w' v.ownBlock):GRows w' base e lm G:=by
 rcases hown.2 with⟨rfl,_⟩|⟨d,a,b,rfl,_,c,_⟩
 ·exact h.kept hg fun i hi=>by
   cases f:((lm.map Prod.snd)[i]'hi).ownBlock with
   | none=>exact .inl rfl
   | some k=>right;simp[Value.ownBlock]
 ·exact h.kept hg (h.fam.not_type c hne)
theorem Mp.kept_map{w w':World}{b b':Nat}{κ α κ' α':Type}{enc:κ->Value}{ok:κ->Prop}{ev:α->Value}{l:List (κ×α)}{enc':κ'->Value}{ok':κ'->Prop}{ev':α'->Value}{l':List (κ'×α')}(h:Mp enc ok ev w b l)(_:Mp enc' ok' ev' w b' l')(hne:b≠b')(hg:w.grownBy w' (some b')):Mp enc ok ev w' b l :=
 h.grown hg fun e=>by injection e with e;exact hne e
end Go.Words
namespace Go.Proofs.YtpbdcppaiafbgaaGreat
open Go Go.RowKit Go.Words Go.Mesh
theorem Zv2{κ:Type}[DecidableEq κ](x:κ):rowOf ([]:List (κ×List Nat)) x=[]:=rfl
theorem Zap:(Tryz.prog.info? 3).map (fun i=>(i.zero,i.size,i.bytes))=some (some (.int .i64 0),1,8):=by kernel_rfl
theorem nodup_snoc{α:Type}(l:List α)(y:α):(l++[y]).Nodup↔l.Nodup/\y ∉ l:=by
 rw[List.nodup_append];constructor
 ·rintro⟨b,_,d⟩;exact⟨b,fun hm=>d _ hm _ (zU.2 rfl) rfl⟩
 ·rintro⟨b,d⟩;refine⟨b,by simp,fun a ha c hc e=>?_⟩;have:c=y:=by simpa using hc
  subst this;subst e;exact d ha
def evT:Unit->Value:=fun _=>.bool true
structure PS (w : World) (h0 n : Nat) (kind : Int) (ks : List T3) (L : List T3) (S : List ((Int×Int)×Unit)) (lm : List (T3×Value)) (G : List (T3×List Nat)) : Prop where
 had:Mp enc3 ok3 id w (h0+1) lm
 rows:GRows w (h0+3) 3 lm G
 seen:Mp enc2 ok2 evT w (h0+2) S
 len:S.length=L.length
 keys:∀x,rowOf G x=[]↔x ∉ ks
 mem:∀x,(rowOf G x).length<=ks.length/\∀a∈rowOf G x,a<n
 good:L=[]↔ks.Nodup
 kinds:∀x∈L,x.1=kind
 le:L.length<=ks.length*ks.length
theorem PS.below{w w':World}{h0 n:Nat}{kind:Int}{ks L:List T3}{S:List ((Int×Int)×Unit)}{lm:List (T3×Value)}{G:List (T3×List Nat)}(h:PS w h0 n kind ks L S lm G)(hb:Below w.heap.size w w'):PS w' h0 n kind ks L S lm G :=
 { h with had:=h.had.below hb h.had.lt,rows:=h.rows.below hb zl,seen:=h.seen.below hb h.seen.lt }
theorem PS.alloc{w:World}{h0 n:Nat}{kind:Int}{ks L:List T3}{S:List ((Int×Int)×Unit)}{lm:List (T3×Value)}{G:List (T3×List Nat)}(h:PS w h0 n kind ks L S lm G)(o:Obj):PS (w.alloc o) h0 n kind ks L S lm G :=
 h.below ((zr _ _).alloc zl o)
theorem Zvq(g:Nat)(hgf:g=165 \/ g=166)(kind:Int)(keysF:T3->List T3)(v:Value)(N:Int)(T:List T3)(w:World){B:Nat}(hB0:B<=w.heap.size)(h:Sl 3 RTri w B v T)(p3:T.length<=8192)
  (hk:∀t w,t∈T->Calls Tryz.prog g #[enc3 t] w fun e w'=>(∃gk,e=.returned (.slice (some ⟨gk,0,none⟩) (keysF t).length (keysF t).length)/\Bk w' gk 56 (Zal (keysF t)))/\Below w.heap.size w w')
  (h3:∀t,(keysF t).length<=3) (hok:∀t∈T,∀x∈keysF t,ok3 x) :
  Calls Tryz.prog 164 #[.agg #[.int .i64 N,v],.int .i64 kind,.func (.func g) #[] #[]] w fun e w'=>(∃v',e=.returned v'/\Wits w' w.heap.size v' kind (T.flatMap keysF).Nodup)/\Below w.heap.size w w':=by
 obtain⟨A,cap,rfl,f4⟩:=h.form;have ee:=(((zr w.heap.size w).alloc zl (.cells #[.int .i64 N,.slice A T.length cap] 24)).alloc (by simp) (.map #[] 0)).alloc (by simp;omega) (.map #[] 0);have el:=@run_makeMap Tryz.prog;have m1:=(Mp.new' (enc:=enc3) (ok:=ok3) (ev:=(id:Value->Value)) (κ:=T3) (n:=w.heap.size+1) (w:=w.alloc (.cells #[.int .i64 N,.slice A T.length cap] 24)) (by simp)).alloc (.map #[] 0);have m2:=Mp.new' (enc:=enc2) (ok:=ok2) (ev:=evT) (κ:=Int×Int) (n:=w.heap.size+2) (w:=(w.alloc (.cells #[.int .i64 N,.slice A T.length cap] 24)).alloc (.map #[] 0)) (by simp);have r:PS (((w.alloc (.cells #[.int .i64 N,.slice A T.length cap] 24)).alloc (.map #[] 0)).alloc (.map #[] 0)) w.heap.size T.length kind [] [] [] [] [] :=
  { had:=m1,rows:=GRows.nil _ _ _,seen:=m2,len:=rfl,keys:=fun x=>by rw[Zv2];simp,mem:=fun x=>by rw[Zv2];simp,good:=by simp,kinds:=by simp,le:=by simp }
 clear m1 m2;obtain⟨Hh,I,e8,du⟩:=zz4 h r hk hok;clear h r hk hok;rcases hgf with rfl|rfl
 all_goals
  go_enter Tryz.func164,Tryz.ntmps164;go_wp2;clear el;go_loopw[7,22] (fun l i wr=>∃(k:Nat) (L:List T3) (S:List ((Int×Int)×Unit)) (lm:List (T3×Value)) (G:List (T3×List Nat)),k<=T.length/\i=.int .i64 k/\wr.ownsRow (w.heap.size+3) 48 3 l L.length (Zal L) /\
    PS wr w.heap.size T.length kind ((T.take k).flatMap keysF) L S lm G/\((T.take k).flatMap keysF).length<=3*k/\Below w.heap.size w wr)
   (fun _ i _=>T.length-(intOf i).toNat)
  case atStart=>exact⟨0,[],[],[],[],by omega,rfl,zn _ _ _ _,by simpa using I.out,by simp,ee⟩
  case round =>
   obtain⟨k,L,S,lm,G,fk,rfl,d,r,co,J⟩:=hrel;have hz:=J.size;have dp:w.heap.size+2<wr.heap.size:=r.seen.lt;by_cases bz:k<T.length
   ·obtain⟨b,o,rfl,hb,c1,c2,c3⟩:=(Hh.out.below zaaq (J.mono hB0)).tri_at bz;have cw:T.take (k+1)=T.take k++[T[k]]:=zT bz;have df:=fun w=>e8.out T[k] w (zM bz)
    have ct:=du.out T[k] (zM bz);have fj:=h3 T[k];generalize hx:T[k]=x at *;have bd:(T.take (k+1)).flatMap keysF=(T.take k).flatMap keysF++keysF x:=by rw[cw,List.flatMap_append];simp
    obtain⟨x1,x2,x3⟩:=x;simp only[]at c1 c2 c3;generalize keysF (x1,x2,x3)=M at *;generalize cp:(T.take k).flatMap keysF=a4 at *;obtain⟨A5,f0,rfl,es⟩:=zaeq d;have fh:b<wr.heap.size:=by omega
    have a9:=J.alloc hz (.cells #[.int .i64 x1,.int .i64 x2,.int .i64 x3] 57);have am:=r.alloc (.cells #[.int .i64 x1,.int .i64 x2,.int .i64 x3] 57);have C:=d.alloc (.cells #[.int .i64 x1,.int .i64 x2,.int .i64 x3] 57);obtain⟨X,I,ez,fd,dt,d3,ax,er,Y,s⟩:=zz10 d r cw hx df ct bd cp am C;clear d r cw hx df ct bd cp am C;go_wp2_with fail;refine(dt.out _).mono ?_;rintro e w1 ⟨⟨gk,rfl,de⟩,an⟩;have bv:=zapq a9 an a9.size;have fl:=bv.size;have bp:=Y.out.below an;have c0:=zafq s.out an zl;have fm:=bp.seen.lt;clear c1 c2 c3;obtain⟨ds,d4,cd⟩:=zz3 de bp c0;clear de bp c0;go_wp2;obtain⟨wo,bh⟩:∃wo:World,wo=w1:=⟨_,rfl⟩;go_loopw[7,31] (fun l i wi=>∃(m:Nat) (L:List T3) (S:List ((Int×Int)×Unit)) (lm:List (T3×Value)) (G:List (T3×List Nat)),m<=M.length/\i=.int .i64 m/\wi.ownsRow (w.heap.size+3) 48 3 l L.length (Zal L) /\
      PS wi w.heap.size T.length kind (a4++M.take m) L S lm G/\Bk wi gk 56 (Zal M)/\Below w.heap.size w wi)
     (fun _ i _=>M.length-(intOf i).toNat)
    case atStart=>exact⟨0,L,S,lm,G,by omega,rfl,cd.out,by simpa using d4.out,ds.out,bv⟩
    case round =>
     clear bh wo;obtain⟨m,L,S,lm,G,hm,rfl,d,r,P,J⟩:=hrel;have hz:=J.size;have dp:=r.seen.lt;by_cases bn:m<M.length
     ·obtain⟨b',o',cg,fg,c1,c2,c3⟩:=(Zqh (cap:=M.length) P zl).tri_at bn;injection cg with cg;injection cg with e1 e2;subst e1;subst e2;simp only[Nat.zero_add]at c1 c2 c3;have cu:=d3.out M[m] (zM bn);have dj:M.take (m+1)=M.take m++[M[m]]:=zT bn;generalize hy:M[m]=y at *;obtain⟨D,E,F⟩:=y;simp only[]at c1 c2 c3;have cn:=r.keys (D,E,F);have bo:=r.mem (D,E,F);obtain⟨Av,bl,hv,ew⟩:=zaeq (r.rows.row (D,E,F));generalize hg:rowOf G (D,E,F)=O at *;have dk:((Words.look lm (D,E,F)).map id).getD (.slice none 0 0)=.slice Av O.length bl:=by rw[show ∀o:Option Value,o.map id=o from fun o=>by cases o<;>rfl];exact hv
      have hM:(a4++M.take m).length<=3*k+m:=by rw[zA,List.length_take];omega
      have ff:L.length<=603979776:=Nat.le_trans r.le (Nat.le_trans (Nat.mul_le_mul (Nat.le_trans hM (show 3*k+m<=24576 by omega)) (Nat.le_trans hM (show 3*k+m<=24576 by omega))) (by omega));have fi:O.length<=(a4++M.take m).length:=bo.1;have f5:O.length<=24576:=by omega
      obtain⟨A6,f1,rfl,et⟩:=zaeq d;have a9:=J.alloc hz (.cells #[.int .i64 D,.int .i64 E,.int .i64 F] 56);have am:=r.alloc (.cells #[.int .i64 D,.int .i64 E,.int .i64 F] 56);have C:=d.alloc (.cells #[.int .i64 D,.int .i64 E,.int .i64 F] 56);have a0:=P.alloc (.cells #[.int .i64 D,.int .i64 E,.int .i64 F] 56);have Z:=Bk.new wr 56 [.int .i64 D,.int .i64 E,.int .i64 F];have dh:=am.had;obtain⟨X,I,b1,b5,bk,fe,cy,b4,bu,dd,dx,Y⟩:=zz12 d r P cu dj hy cn bo hv hg dk am;obtain⟨s,W,ak,cc⟩:=zz4 C a0 Z dh;clear d r P cu dj hy cn bo hv hg dk am C a0 Z dh;go_wp2_with(at_lookup;refine zanq _ rfl _ _ 218 rfl 56 28 key3 Tryz.underlying218 Ztd (w.heap.size+1) lm rfl cc.out (D,E,F) rfl b5.out ?_;rw[dx.out]);obtain⟨wo,bh⟩:∃wo:World,wo=wr.alloc (.cells #[.int .i64 D,.int .i64 E,.int .i64 F] 56):=⟨_,rfl⟩;have fo:wr.heap.size+1<=wo.heap.size:=by rw[bh];simp
      rw[<- bh]at a9 Y s W ak cc ⊢;clear bh c1 c2 c3;obtain⟨gy,cm⟩:∃gy,gy=wr.heap.size:=⟨_,rfl⟩;rw[<- cm]at ak ⊢;have f6:w.heap.size+3<=gy:=by omega
      clear cm;go_loopw[7,39] (fun l i wi=>∃(j:Nat) (L':List T3) (S':List ((Int×Int)×Unit)),j<=O.length/\i=.int .i64 j/\wi.ownsRow (w.heap.size+3) 48 3 l L'.length (Zal L') /\
        Mp enc3 ok3 id wi (w.heap.size+1) lm/\GRows wi (w.heap.size+3) 3 lm G/\Mp enc2 ok2 evT wi (w.heap.size+2) S'/\S'.length=L'.length/\(L'=[]↔L=[]/\j=0)/\(∀x∈L',x.1=kind)/\L'.length<=L.length+j /\
        Bk wi gk 56 (Zal M)/\Bk wi gy 56 [.int .i64 D,.int .i64 E,.int .i64 F]/\Below w.heap.size w wi)
       (fun _ i _=>O.length-(intOf i).toNat)
      case atStart=>exact⟨0,L,S,by omega,rfl,s.out,Y.out.had,Y.out.rows,Y.out.seen,Y.out.len,by simp,Y.out.kinds,by omega,W.out,ak.out,a9⟩
      case round =>
       obtain⟨j,L',S',hj,rfl,d,a6,H,K,av,a8,Q,dg,P,Z,J⟩:=hrel;have hz:=J.size;have dp:=K.lt;obtain⟨A7,f2,rfl,eu⟩:=zaeq d;by_cases cs:j<O.length
       ·have R:=H.row (D,E,F);rw[bu.out,dd.out]at R;obtain⟨b2,o2,rfl,ay,c1⟩:=(ints_own R).int_at (k:=j) (by simpa using cs);rw[List.getElem_map]at c1;have ha:=b4.out.2 _ (zM cs);generalize O[j]=a at *;have b8:ok2 ((a:Int),(k:Int)):=⟨I64.nat (by omega),I64.nat (by omega)⟩;have V:=K.alloc (.cells #[.int .i64 a,.int .i64 k] 38);have a3:=a6.alloc (.cells #[.int .i64 a,.int .i64 k] 38);have C:=d.alloc (.cells #[.int .i64 a,.int .i64 k] 38);have U:=H.below ((zr _ _).alloc zl (.cells #[.int .i64 a,.int .i64 k] 38)) zl;have a0:=P.alloc (.cells #[.int .i64 a,.int .i64 k] 38);have b7:=Z.alloc (.cells #[.int .i64 a,.int .i64 k] 38);have a9:=J.alloc hz (.cells #[.int .i64 a,.int .i64 k] 38);cases aa:(Words.look S' ((a:Int),(k:Int))).isSome
        case true =>
         have be:((Words.look S' ((a:Int),(k:Int))).map evT).getD (.bool false)=.bool true:=by
          obtain⟨u,hu⟩:=Option.isSome_iff_exists.1 aa;rw[hu];rfl
         have ch:L'≠[]:=by
          intro h0;rw[h0]at av;have:S'=[]:=List.eq_nil_of_length_eq_zero av;rw[this]at aa;cases aa
         have a5:L'=[]↔L=[]/\j+1=0:=⟨fun h9=>absurd h9 ch,fun h9=>by omega⟩;obtain⟨X,br,ba,bb,ap,a7,b1,ak,bt,ao,c,f⟩:=zz12 d a6 H K a8 Q P Z R b8 V a3;obtain⟨s,a1,W,b3,dw,bj,ey,aj⟩:=zz8 C U a0 b7 aa be ch a5;clear d a6 H K a8 Q P Z R b8 V a3 C U a0 b7 aa be ch a5;go_wp2_with(at_lookup;refine zanq _ rfl _ _ 219 rfl 38 4 key2 Tryz.underlying219 Zbq (w.heap.size+2) S' rfl c.out ((a:Int),(k:Int)) rfl ao.out ?_;rw[bj.out]);exact⟨⟨j+1,L',S',by omega,by simp,s.out,f.out,a1.out,c.out,av,aj.out,a7.out,by omega,W.out,b3.out,a9⟩,by simp[intOf];omega⟩
        case false =>
         have be:((Words.look S' ((a:Int),(k:Int))).map evT).getD (.bool false)=.bool false:=by
          rw[Option.isSome_eq_false_iff,Option.isNone_iff_eq_none]at aa;rw[aa];rfl
         have di:(Words.put S' ((a:Int),(k:Int)) ()).length=S'.length+1:=Znv _ (by rw[<- zayq,aa];simp);have a5:L'++[(kind,(a:Int),(k:Int))]=[]↔L=[]/\j+1=0:=⟨fun h9=>by simp at h9,fun h9=>by omega⟩;have az:∀x∈L'++[(kind,(a:Int),(k:Int))],x.1=kind:=by
          intro x hx;rcases zP.1 hx with h9|h9
          ·exact Q x h9
          ·have:x=(kind,(a:Int),(k:Int)):=by simpa using h9
           rw[this]
         obtain⟨X,br,ba,bb,ap,a7,b1,ak,bt,ao,c,f⟩:=zz12 d a6 H K a8 Q P Z R b8 V a3;obtain⟨s,a1,W,b3,dw,bj,dv,aj,bi⟩:=zz9 C U a0 b7 aa be di a5 az;clear d a6 H K a8 Q P Z R b8 V a3 C U a0 b7 aa be di a5 az;go_wp2_with(first
          | (at_lookup;refine zanq _ rfl _ _ 219 rfl 38 4 key2 Tryz.underlying219 Zbq (w.heap.size+2) S' rfl c.out ((a:Int),(k:Int)) rfl ao.out ?_;rw[bj.out])
          | (at_mapUpdate;refine zbdq _ rfl _ _ _ 219 rfl 38 4 key2 Tryz.underlying219 (w.heap.size+2) S' rfl c.out ((a:Int),(k:Int)) rfl ao.out () rfl ?_;intro w2 bg ac aw;have ay:=a9.grown ac (by simp;omega) (fun q hq=>by cases hq;omega);have dq:=ay.size;have e4:wr.heap.size+1<=w2.heap.size:=(by rw[aw];simp);obtain⟨c6,p⟩:=zz2 bg ac;clear bg ac;clear aw)
          | (at_builtin;refine zajq _ rfl (.tmp 52) (.tmp 57) 160 rfl (w.heap.size+3) Zkq Tryz.underlying160 rfl (by omega) _ L'.length (Zal L') rfl ((zatq s.out c.out p.out).alloc _) w2.heap.size [.int .i64 kind,.int .i64 a,.int .i64 k] rfl (Bk.new _ _ _) rfl (by simp[Value.oneCell']) (by omega) (by omega) (by simp;omega) ?_;intro v1 w3 ah an au _;obtain⟨ar,z⟩:=zz2 ah au;clear ah au))
         have ai:=(zatq s.out c.out p.out).alloc (.cells #[.int .i64 kind,.int .i64 a,.int .i64 k] 48);have ef:=(zr w2.heap.size w2).alloc zl (.cells #[.int .i64 kind,.int .i64 a,.int .i64 k] 48);exact⟨⟨j+1,_,_,by omega,by simp,by rw[Zfk,zA];exact ar.out,((f.out.kept_map c.out (by omega) p.out).alloc _).kept_own ai z.out,((a1.out.kept_map c.out p.out).below ef zl).kept_own ai (by decide) z.out,
          (c6.out.alloc _).kept_own ai z.out,by rw[dv.out,zA,av];rfl,aj.out,bi.out,by simp;omega,((W.out.kept_map c.out p.out).alloc _).kept_own ai (by decide) z.out,((b3.out.kept_map c.out p.out).alloc _).kept_own ai (by decide) z.out,
          (ay.alloc dq _).trans (an.mono (by omega))⟩,by simp[intOf];omega⟩
       ·have ei:j=O.length:=by omega
        subst ei;have R:=H.row (D,E,F);rw[bu.out,dd.out]at R;have a3:=a6.alloc (.cells #[.int .i64 k] 3);have V:=K.alloc (.cells #[.int .i64 k] 3);have C:=d.alloc (.cells #[.int .i64 k] 3);have c4:=R.alloc (.cells #[.int .i64 k] 3);have U:=H.below ((zr _ _).alloc zl (.cells #[.int .i64 k] 3)) zl;have a0:=P.alloc (.cells #[.int .i64 k] 3);have cr:=Bk.new wr 3 [.int .i64 k];have a9:=J.alloc hz (.cells #[.int .i64 k] 3);have dl:id ((Words.look lm (D,E,F)).getD (.slice none 0 0))=.slice Av O.length bl:=bu.out;have dm:Words.valOf (Words.ent lm (D,E,F) (.slice none 0 0)) (D,E,F)=.slice Av O.length bl:=by unfold Words.valOf;rw[look_ent];exact bu.out
        have d0:wr.cell? ⟨gy,0,none⟩=some (.int .i64 D):=Z.cell 0;have d1:wr.cell? ⟨gy,1,none⟩=some (.int .i64 E):=Z.cell 1;have d2:wr.cell? ⟨gy,2,none⟩=some (.int .i64 F):=Z.cell 2;have f7:=Z.lt;obtain⟨X,br,ba,bb,ap,a7,b1,ak,bt,f,c,s⟩:=zz12 d a6 H K a8 Q P Z R a3 V C;obtain⟨af,a1,W,cz,dy,ce⟩:=zz6 c4 U a0 cr dl dm;clear d a6 H K a8 Q P Z R a3 V C c4 U a0 cr dl dm;go_wp2_with(first
         | (at_builtin;refine zajq _ rfl (.tmp 62) (.tmp 64) 28 rfl (w.heap.size+3) Zap Tryz.underlying28 rfl (by omega) _ O.length (O.map encI) rfl (zatq af.out f.out p.out) wr.heap.size [.int .i64 k] rfl (cz.out.kept_map f.out p.out) rfl (by simp[Value.oneCell']) (by omega) (by omega) (by omega) ?_;intro v1 w3 ah an au ci;obtain⟨ar,z,cx⟩:=zz3 ah au ci;clear ah au ci)
         | (refine wpList_entry _ rfl _ _ 218 rfl 56 28 key3 Tryz.underlying218 (.slice none 0 0) Ztd (w.heap.size+1) lm rfl f.out (D,E,F) rfl b5.out ?_;intro st w2 bw cv ac aw;have ay:=a9.grown ac (by simp;omega) (fun q hq=>by cases hq;omega);have dq:=ay.size;have e4:wr.heap.size+1<=w2.heap.size:=(by rw[aw];simp);rw[dy.out];obtain⟨aq,d5,p⟩:=zz3 bw cv ac;clear bw cv ac;clear aw)
         | (refine wpList_stamp _ rfl _ _ _ 218 rfl 56 key3 (w.heap.size+1) (Words.ent lm (D,E,F) (.slice none 0 0)) rfl (aq.out.kept_own (zatq af.out f.out p.out) z.out) (D,E,F) st (d5.out.grown z.out (aq.out.no_row (zatq af.out f.out p.out))) rfl b5.out v1 rfl ?_;intro w4 bx ck e5;obtain⟨cb,ae⟩:=zz2 bx ck;clear bx ck;clear e5))
        have b9:=zatq af.out f.out p.out;have b6:=aq.out.kept_own b9 z.out;have l2:=zatq s.out f.out p.out;have l3:=l2.kept z.out (Zbi b9 l2 (by decide));have d7:=(a1.out.kept_map f.out p.out).ent (D,E,F);have d9:=c.out.kept_map f.out (by omega) p.out;have ea:=W.out.kept_map f.out p.out;have eb:(O++[k]).map encI=O.map encI++[.int .i64 (k:Int)]:=by rw[List.map_append];rfl
        have d8:=d7.put (x:=(D,E,F)) (v':=v1) (L':=O++[k]) ((ent_keys G _ _ _).2 (.inl rfl)) (by rw[eb,zA];exact ar.out) (by rw[ce.out];exact z.out) (by
         rw[ce.out];exact cx.out.imp id fun h9=>⟨_,h9,zl⟩)
        have e2:=nodup_snoc (a4++M.take m) (D,E,F);have cj:L'=[]↔(a4++M.take (m+1)).Nodup:=by
         rw[bk.out,<- List.append_assoc,e2,ap.out,I.out.good,<- cy.out,List.length_eq_zero_iff]
        have c5:∀x,rowOf (Words.ent G (D,E,F) []) x=rowOf G x:=fun x=>by unfold Words.rowOf;rw[look_ent]
        have cq:(a4++M.take (m+1)).length=(a4++M.take m).length+1:=by rw[bk.out,<- List.append_assoc,zA (bs:=[_])];rfl
        refine⟨⟨m+1,L',S',_,_,by omega,by simp,zatq l3 b6 ae.out,{ had:=cb.out,rows:=d8.kept_map b6 ae.out,seen:=(d9.kept_own b9 z.out).kept_map b6 (by omega) ae.out,len:=av,keys:=fun x=>?_,mem:=fun x=>?_,good:=cj,kinds:=a7.out,le:=?_ },
         (ea.kept_own b9 (by decide) z.out).kept_map b6 ae.out,((ay.trans (an.mono (by omega))).grown ae.out (by have:=an.size;omega) (fun q hq=>by cases hq;omega))⟩,by simp[intOf];omega⟩
        ·rw[Zv3,c5,bk.out,<- List.append_assoc];by_cases b0:(D,E,F)=x
         ·subst b0;simp
         ·rw[if_neg b0,I.out.keys x];simp only[zP,zU,not_or];exact⟨fun h9=>⟨h9,fun e=>b0 e.symm⟩,fun h9=>h9.1⟩
        ·rw[Zv3,c5,cq];by_cases b0:(D,E,F)=x
         ·rw[if_pos b0];refine⟨by have:=b4.out.1;rw[zA];simp only[List.length_cons,List.length_nil];omega,fun a ha=>?_⟩;rcases zP.1 ha with h9|h9
          ·exact b4.out.2 a h9
          ·have:a=k:=by simpa using h9
           omega
         ·rw[if_neg b0];have:=I.out.mem x;exact⟨by omega,this.2⟩
        ·rw[cq];have h8:=I.out.le;have e9:((a4++M.take m).length+1)*((a4++M.take m).length+1)=(a4++M.take m).length*(a4++M.take m).length+2*(a4++M.take m).length+1:=by
          rw[Nat.add_mul,Nat.mul_add];omega
         omega
     ·have ej:m=M.length:=by omega
      subst ej;rw[List.take_length]at r;rw[<- ax.out]at r;obtain⟨X,I,b1⟩:=zz3 d r P;clear d r P;go_wp2;have e3:((T.take (k+1)).flatMap keysF).length<=3*(k+1):=by rw[ax.out,zA];omega
      exact⟨⟨k+1,L,S,lm,G,by omega,by simp,X.out,I.out,e3,J⟩,by simp[intOf];omega⟩
   ·have e0:k=T.length:=by omega
    subst e0;rw[List.take_length]at r co;have dg:L.length<=603979776:=Nat.le_trans r.le (Nat.le_trans (Nat.mul_le_mul (Nat.le_trans co (show 3*T.length<=24576 by omega)) (Nat.le_trans co (show 3*T.length<=24576 by omega))) (by omega));obtain⟨X,I⟩:=zz2 d r;clear d r;go_wp2;go_ret;exact⟨⟨_,rfl,L,zalq X.out (by omega),I.out.good,I.out.kinds,dg⟩,J⟩
open Go Go.RowKit Go.Words Go.Mesh
theorem Zwk(t:T3)(w:World) :
  Calls Tryz.prog 165 #[enc3 t] w fun e w'=>(∃gk,e=.returned (.slice (some ⟨gk,0,none⟩) (Zoj t).length (Zoj t).length)/\Bk w' gk 56 (Zal (Zoj t)))/\Below w.heap.size w w':=by
 obtain⟨a,b,c⟩:=t;show Calls Tryz.prog 165 #[.agg #[.int .i64 a,.int .i64 b,.int .i64 c]] w _;go_enter Tryz.func165,Tryz.ntmps165;go_wp2;go_ret;exact⟨⟨_,rfl,Bk.new' (n:=w.heap.size+1) (w:=w.alloc (.cells #[.int .i64 a,.int .i64 b,.int .i64 c] 57)) 56 (Zal (Zoj (a,b,c))) (by simp)⟩,(by repeat (first|exact zr _ _|assumption|refine Below.drew ?_|refine Below.setCell ?_ (by first|omega|(simp<;>omega)) _|refine Below.alloc ?_ (by first|omega|(simp<;>omega)) _|refine zaiq ?_ _))⟩
theorem keys2_ok{N:Int}{T:List T3}(hp:Za6 N T):∀t∈T,∀x∈Zoj t,ok3 x:=by
 intro t f x b;obtain⟨h,i,j,g⟩:=hp;obtain⟨⟨k,l⟩,⟨m,n⟩,⟨o,p⟩⟩:=g t f;have a:I64 0:=by unfold I64;omega
 have c:I64 t.1:=by unfold I64;omega
 have d:I64 t.2.1:=by unfold I64;omega
 have e:I64 t.2.2:=by unfold I64;omega
 unfold Zoj at b;simp only[List.mem_cons,List.not_mem_nil,or_false]at b;rcases b with rfl|rfl|rfl
 ·exact⟨c,d,a⟩
 ·exact⟨d,e,a⟩
 ·exact⟨e,c,a⟩
theorem twice_calls(v:Value)(N:Int)(T:List T3)(w:World){B:Nat}(hB0:B<=w.heap.size)(h:Sl 3 RTri w B v T)(hp:Za6 N T) :
  Calls Tryz.prog 147 #[.agg #[.int .i64 N,v]] w fun e w'=>(∃d,e=.returned d/\Wits w' w.heap.size d 3 (T.flatMap Zoj).Nodup)/\Below w.heap.size w w':=by
 have n:=fun w hB h=>Zvq 165 (.inl rfl) 3 Zoj v N T w (B:=B) hB h hp.2.2.1 (fun t w _=>Zwk t w) (fun t=>zl) (keys2_ok hp)
 obtain⟨A,l,rfl,s⟩:=h.form;have a:=(zr w.heap.size w).alloc zl (.cells #[.int .i64 N,.slice A T.length l] 24);clear hp;obtain⟨r,f⟩:=zz2 h n;clear h n;go_enter Tryz.func147,Tryz.ntmps147;go_wp2_with fail;refine(f.out _ (by simp;omega) (r.out.below zaaq (a.mono hB0))).mono ?_;rintro e u ⟨⟨d,rfl,L,b,o,p,q⟩,m⟩;have c:=zapq a m a.size;have b:=zalq b a.size;obtain⟨g,i,j,k⟩:=zz4 b o p q;clear b o p q;go_wp2;go_ret;exact⟨⟨_,rfl,L,g.out,i.out,j.out,k.out⟩,c⟩
end Go.Proofs.YtpbdcppaiafbgaaGreat
namespace Go.Words
open Go Go.RowKit
theorem wpList_insert{P:Program}(w:World){ops:Array Oper}{rest:List Oper}{o:Oper}{a:Act}{Q:Exit->Act->World->Prop}{κ α:Type}[DecidableEq κ]{enc:κ->Value}{ok:κ->Prop}{ev:α->Value}
  (hg:o.guard=none) (m x v:Operand) (t:TypeId) (hop:o.op=Op.insert t m x v) (k e:TypeId) (K:KeyT P k enc ok) (ht:P.underlying t=some (.map k e))
  (b:Nat) (l:List (κ×α)) (hm:a.eval m=.map (some b)) (hown:Mp enc ok ev w b l) (key:κ) (hx:a.eval x=enc key) (hkey:ok key) (val:α) (hv:a.eval v=ev val)
  (hK:∀c,Mp enc ok ev c b (Words.put l key val)->w.grownBy c (some b)->c.heap.size=w.heap.size->wpList P ops Q rest (a.put o.dst undef) c):wpList P ops Q (o::rest) a w:=by
 refine wpList_plain hg fun K' hK'=>?_
 obtain⟨c,d,f,g,h⟩:=hown.put_run K ht hkey val;unfold Oper.wp;simp[execOp,hop,hm,hx,hv,d,Result.andThen];exact hK' _ _ (hK c f g h)
theorem put_ent{κ α:Type}[DecidableEq κ](l:List (κ×α))(x:κ)(z v:α):Words.put (ent l x z) x v=Words.put l x v:=by
 unfold Words.ent;by_cases a:x∈l.map (·.1)
 ·rw[if_pos ((zayq l x).2 a)]
 ·rw[if_neg (by rw[zayq];exact a),Zq8 v a]
  induction l with
  | nil=>simp[Words.put]
  | cons p l ih =>
   simp only[List.map_cons,List.mem_cons,not_or]at a;have b:p.1≠x:=fun e=>a.1 e.symm
   simp[Words.put,b,ih a.2]
def Zqz(w:World)(b:Nat):Nat:=match w.heap[b]? with
 | some (.map es _)=>es.size
 | _=>0
def sliceLen:Value->Nat
 | .slice _ n _=>n
 | _=>0
theorem Mp.msize{w:World}{b:Nat}{κ α:Type}{enc:κ->Value}{ok:κ->Prop}{ev:α->Value}{l:List (κ×α)}(h:Mp enc ok ev w b l):Zqz w b=l.length:=by
 obtain⟨e,a,c,_,d⟩:=h.block;unfold Zqz;rw[c];have:=congrArg List.length d;simpa using this
end Go.Words
namespace Go.Mesh
def Zac(T:List T3)(i:Nat):T3:=T.getD i (0,0,0)
instance (t : T3) (u : Int) : Decidable (HasV t u) := by unfold HasV; exact inferInstance
def hasB(T:List T3)(u:Int)(i:Nat):Bool:=decide (HasV (Zac T i) u)
def AdjT(T:List T3)(v:Int)(i k:Nat):Prop:=∃u,u≠v/\HasV (Zac T i) u/\HasV (Zac T k) u
def ClosedT(T:List T3)(v:Int)(tris:List Nat)(P:Nat->Prop):Prop:=∀i k,i∈tris->k∈tris->P i->AdjT T v i k->P k
def Conn(T:List T3)(v:Int)(tris:List Nat)(t0:Nat):Prop:=∀P:Nat->Prop,P t0->ClosedT T v tris P->∀k∈tris,P k
theorem Zph{α:Type}[DecidableEq α]:∀(l m:List α),l.Nodup->(∀x∈l,x∈m)->l.length<=m.length
 | [],m,_,_=>by simp
 | x::l,m,hn,h=>by
  rw[List.nodup_cons]at hn;have a:=h x List.mem_cons_self;have:=Zph l (m.erase x) hn.2 fun y hy=>(List.mem_erase_of_ne (fun e:y=x=>hn.1 (e ▸ hy))).2 (h y (List.mem_cons_of_mem _ hy))
  rw[List.length_erase_of_mem a]at this;have b:0<m.length:=List.length_pos_of_mem a;simp only[List.length_cons];omega
theorem nodup_all{α:Type}[DecidableEq α]{l m:List α}(hn:l.Nodup)(h:∀x∈l,x∈m)(hl:m.length<=l.length):∀x∈m,x∈l:=by
 intro x b;by_cases a:x∈l
 ·exact a
 ·have:=Zph (x::l) m (List.nodup_cons.2 ⟨a,hn⟩) fun y hy=>(List.mem_cons.1 hy).elim (fun e=>e ▸ b) (h y)
  simp at this;omega
structure Bfs (T : List T3) (v : Int) (tris : List Nat) (t0 : Nat) (R Q : List Nat) (open_ : Nat -> Nat -> Prop) : Prop where
 start:t0∈R
 nodup:R.Nodup
 sub:∀r∈R,r∈tris
 reach:∀r∈R,∀P:Nat->Prop,P t0->ClosedT T v tris P->P r
 wait:∀q∈Q,q∈R
 done:∀r∈R,r ∉ Q->∀k∈tris,AdjT T v r k->k∈R\/open_ r k
theorem Bfs.le{T:List T3}{v:Int}{tris:List Nat}{t0:Nat}{R Q:List Nat}{o:Nat->Nat->Prop}(h:Bfs T v tris t0 R Q o):R.length<=tris.length:=Zph R tris h.nodup h.sub
theorem Bfs.end_{T:List T3}{v:Int}{tris:List Nat}{t0:Nat}{R:List Nat}(h:Bfs T v tris t0 R [] fun _ _=>False)(hn:tris.Nodup):R.length=tris.length↔Conn T v tris t0:=by
 constructor
 ·intro g P d b k c;exact h.reach k (nodup_all h.nodup h.sub (by omega) k c) P d b
 ·intro b;have a:=b (· ∈ R) h.start fun i k _ c hi ha=>(h.done i hi (by simp) k c ha).elim id False.elim
  have e:=h.le;have f:=Zph tris R hn a;omega
section
variable {T : List T3} {v : Int} {tris : List Nat} {t0 : Nat} {R Q : List Nat} {o o' : Nat -> Nat -> Prop}
theorem Bfs.begin_(h0:t0∈tris):Bfs T v tris t0 [t0] [t0] fun _ _=>False :=
 ⟨zU.2 rfl,by simp,fun r hr=>by rw[zU.1 hr];exact h0,fun r hr P hp _=>by rw[zU.1 hr];exact hp,fun q hq=>hq,fun r hr hq=>absurd hr hq⟩
theorem Bfs.pop{i:Nat}(h:Bfs T v tris t0 R (i::Q) fun _ _=>False):Bfs T v tris t0 R Q fun r k=>r=i/\AdjT T v i k :=
 ⟨h.start,h.nodup,h.sub,h.reach,fun q hq=>h.wait q (List.mem_cons_of_mem _ hq),fun r hr hq k hk ha=>by
  by_cases a:r=i
  ·subst a;exact .inr ⟨rfl,ha⟩
  ·exact .inl ((h.done r hr (fun hm=>(List.mem_cons.1 hm).elim a hq) k hk ha).elim id False.elim)⟩
theorem Bfs.mono(h:Bfs T v tris t0 R Q o)(ho:∀r k,k∈tris->o r k->k∈R\/o' r k):Bfs T v tris t0 R Q o' :=
 ⟨h.start,h.nodup,h.sub,h.reach,h.wait,fun r hr hq k hk ha=>(h.done r hr hq k hk ha).elim .inl (ho r k hk)⟩
theorem Bfs.push(h:Bfs T v tris t0 R Q o){i k:Nat}(hk:k∈tris)(hkR:k ∉ R)(hi:i∈R)(ha:AdjT T v i k)(ho:∀r k',k'∈tris->o r k'->k'=k\/o' r k'):Bfs T v tris t0 (R++[k]) (Q++[k]) o' where
 start:=zP.2 (.inl h.start)
 nodup:=List.nodup_append.2 ⟨h.nodup,by simp,fun a hA c hc e=>by simp at hc;subst hc;exact hkR (e ▸ hA)⟩
 sub:=fun r hr=>(zP.1 hr).elim (h.sub r) fun e=>by rw[zU.1 e];exact hk
 reach:=fun r hr P hp hc=>(zP.1 hr).elim (fun hr=>h.reach r hr P hp hc) fun e=>by
  rw[zU.1 e];exact hc i k (h.sub i hi) hk (h.reach i hi P hp hc) ha
 wait:=fun q hq=>(zP.1 hq).elim (fun hq=>zP.2 (.inl (h.wait q hq))) fun e=>zP.2 (.inr e)
 done:=fun r hr hq k' hk' ha'=>by
  have g:r ∉ [k]:=fun hm=>hq (zP.2 (.inr hm))
  have f:=(zP.1 hr).resolve_right g;rcases h.done r f (fun hm=>hq (zP.2 (.inl hm))) k' hk' ha' with b|b
  ·exact .inl (zP.2 (.inl b))
  ·rcases ho r k' hk' b with d|d
   ·exact .inl (zP.2 (.inr (by rw[d];exact zU.2 rfl)))
   ·exact .inr d
end
theorem vx_has{t:T3}{u:Int}:HasV t u↔∃j,j<3/\vx t j=u:=by
 unfold HasV;constructor
 ·rintro(h|h|h)
  ·exact⟨0,by omega,h.symm⟩
  ·exact⟨1,by omega,h.symm⟩
  ·exact⟨2,by omega,h.symm⟩
 ·rintro⟨j,a,rfl⟩
  match j,a with
  | 0,_=>exact .inl rfl
  | 1,_=>exact .inr (.inl rfl)
  | 2,_=>exact .inr (.inr rfl)
def Zjm(t:T3)(j:Nat)(u:Int):Bool:=(List.range j).any fun i=>vx t i==u
theorem Zkn(t:T3)(u:Int):Zjm t 0 u=false:=rfl
theorem Zf9(t:T3)(j:Nat)(u:Int):Zjm t (j+1) u=(Zjm t j u || vx t j==u):=by
 unfold Zjm;rw[List.range_succ,List.any_append];simp
theorem Zls(t:T3)(u:Int):Zjm t 3 u=decide (HasV t u):=by
 rw[Bool.eq_iff_iff,decide_eq_true_eq,vx_has];unfold Zjm;rw[List.any_eq_true];simp
theorem Zxv{t:T3}(h:Za5 t){j:Nat}(hj:j<3):Zjm t j (vx t j)=false:=by
 obtain⟨b,c,d⟩:=h;have a:j=0\/j=1\/j=2:=by omega
 rcases a with rfl|rfl|rfl
 ·rfl
 ·simp[Zf9,Zkn,vx,b]
 ·simp[Zf9,Zkn,vx,c];exact fun e=>d e.symm
def O1(T:List T3)(v:Int)(i:Nat)(x:T3)(j:Nat):Nat->Nat->Prop:=fun r k=>r=i/\∃u,u≠v/\HasV x u/\HasV (Zac T k) u/\Zjm x j u=false
def O2(T:List T3)(v:Int)(i:Nat)(x:T3)(j:Nat)(grp:List Nat)(p:Nat):Nat->Nat->Prop:=fun r k=>r=i/\((∃u,u≠v/\HasV x u/\HasV (Zac T k) u/\Zjm x (j+1) u=false)\/(HasV (Zac T k) (vx x j)/\k ∉ grp.take p))
theorem adj_O1{T:List T3}{v:Int}{i k r:Nat}{x:T3}(hx:Zac T i=x)(h:r=i/\AdjT T v i k):O1 T v i x 0 r k:=by
 obtain⟨rfl,u,b,a,c⟩:=h;rw[hx]at a;exact⟨rfl,u,b,a,c,rfl⟩
theorem O1_skip{T:List T3}{i j k r:Nat}{x:T3}(h:O1 T (vx x j) i x j r k):O1 T (vx x j) i x (j+1) r k:=by
 obtain⟨rfl,u,a,b,c,d⟩:=h;refine⟨rfl,u,a,b,c,?_⟩;rw[Zf9,d];simpa using fun e:vx x j=u=>a e.symm
theorem O1_O2{T:List T3}{v:Int}{i j k r:Nat}{x:T3}{grp:List Nat}(h:O1 T v i x j r k):O2 T v i x j grp 0 r k:=by
 obtain⟨rfl,u,c,d,a,e⟩:=h;refine⟨rfl,?_⟩;by_cases b:vx x j=u
 ·right;rw[b];exact⟨a,by simp⟩
 ·left;refine⟨u,c,d,a,?_⟩;rw[Zf9,e];simpa using b
theorem O2_next{T:List T3}{v:Int}{i j k r p:Nat}{x:T3}{grp:List Nat}(hp:p<grp.length)(h:O2 T v i x j grp p r k):k=grp[p]\/O2 T v i x j grp (p+1) r k:=by
 obtain⟨rfl,h|⟨b,c⟩⟩:=h
 ·exact .inr ⟨rfl,.inl h⟩
 ·by_cases a:k=grp[p]
  ·exact .inl a
  ·refine .inr ⟨rfl,.inr ⟨b,fun hm=>?_⟩⟩;rw[zT hp]at hm;exact(zP.1 hm).elim c fun e=>a (zU.1 e)
theorem O2_O1{T:List T3}{v:Int}{i j k r:Nat}{x:T3}{tris:List Nat}(hk:k∈tris)(h:O2 T v i x j (tris.filter (hasB T (vx x j))) (tris.filter (hasB T (vx x j))).length r k):O1 T v i x (j+1) r k:=by
 obtain⟨rfl,h|⟨b,a⟩⟩:=h
 ·exact⟨rfl,h⟩
 ·rw[List.take_length]at a;exact absurd (zQ.2 ⟨hk,by unfold hasB;exact zY b⟩) a
theorem O1_three{T:List T3}{v:Int}{i k r:Nat}{x:T3}:¬O1 T v i x 3 r k:=by
 rintro⟨_,u,_,b,_,a⟩;rw[Zls,decide_eq_false_iff_not]at a;exact a b
end Go.Mesh
namespace Go.Proofs.YtpbdcppaiafbgaaGreat
open Go Go.RowKit Go.Words Go.Mesh
theorem triJ(t:T3)(j:Nat)(hj:j<3)(w:World):(Instr.index 57 (.agg #[.int .i64 t.1,.int .i64 t.2.1,.int .i64 t.2.2]) (.int .i64 (j:Int))).run Tryz.prog w=.ok (.int .i64 (vx t j)) w:=by
 have a:j=0\/j=1\/j=2:=by omega
 rcases a with rfl|rfl|rfl
 ·exact tri0 _ _ _ w
 ·exact tri1 _ _ _ w
 ·exact tri2 _ _ _ w
theorem vx_I64{N:Int}{t:T3}(h:InR N t)(hN:N<=4096)(j:Nat):I64 (vx t j)/\0<=vx t j/\vx t j<N:=by
 obtain⟨⟨a,b⟩,⟨c,d⟩,⟨e,f⟩⟩:=h;unfold I64
 match j with
 | 0=>simp only[vx];omega
 | 1=>simp only[vx];omega
 | (n+2)=>simp only[vx];omega
structure Ends (w : World) (h0 : Nat) (T : List T3) (v : Int) (lm : List (Int×Value)) (G : List (Int×List Nat)) (row : Int -> List Nat) : Prop where
 mp:Mp enc1 I64 id w (h0+1) lm
 rows:GRows w (h0+2) 3 lm G
 is:∀u,rowOf G u=if u=v then[]else row u
theorem Zvc{κ α:Type}{enc:κ->Value}{ok:κ->Prop}{ev:α->Value}{l:List (κ×α)}{w:World}{b base:Nat}{e:TypeId}{q:Value}{Q:List Nat}(h:Mp enc ok ev w b l)(hq:Que w base e q Q):some b≠q.ownBlock:=by
 obtain⟨k,c,d,_⟩:=h.block;obtain⟨g,off,i,j,rfl,_,a,_⟩:=hq;intro f;have:b=g:=by simpa[Value.ownBlock]using f
 subst this;rw[d]at a;cases a
theorem Zmg{κ α:Type}{enc:κ->Value}{ok:κ->Prop}{ev:α->Value}{l:List (κ×α)}{w w':World}{b base:Nat}{e:TypeId}{q:Value}{Q:List Nat}(hq:Que w base e q Q)(h:Mp enc ok ev w b l)(hg:w.grownBy w' (some b)):Que w' base e q Q :=
 hq.grown hg fun e=>Zvc h hq e.symm
def Zks(R:List Nat):List (Int×Unit):=R.map fun r:Nat=>((r:Int),())
theorem Zu4(R:List Nat)(k:Nat):(k:Int)∈(Zks R).map (·.1)↔k∈R:=by
 unfold Zks;rw[List.map_map,zB];constructor
 ·rintro⟨r,b,a⟩;have:r=k:=by simp only[Function.comp]at a;omega
  exact this ▸ b
 ·intro h;exact⟨k,h,rfl⟩
theorem keysR_put{R:List Nat}{k:Nat}(h:k ∉ R):Words.put (Zks R) (k:Int) ()=Zks (R++[k]):=by
 rw[Zq8 _ (by rw[Zu4];exact h)];unfold Zks;rw[List.map_append];rfl
structure TState (w : World) (h0 bR : Nat) (T : List T3) (vv : Int) (lm : List (Int×Value)) (G : List (Int×List Nat)) (row : Int -> List Nat) (q : Value) (R Q : List Nat) : Prop where
 que:Que w (h0+2) 3 q Q
 mp:Mp enc1 I64 evT w bR (Zks R)
 ends:Ends w h0 T vv lm G row
 qa:∀i (hi:i<(lm.map Prod.snd).length),((lm.map Prod.snd)[i]'hi).ownBlock=none\/((lm.map Prod.snd)[i]'hi).ownBlock≠q.ownBlock
 ne:bR≠h0+1
section
variable {w w2 w3 : World} {h0 bR : Nat} {T : List T3} {vv : Int} {lm : List (Int×Value)} {G : List (Int×List Nat)} {row : Int -> List Nat} {q q' : Value} {R Q Q' : List Nat}
theorem TState.tail(h:TState w h0 bR T vv lm G row q R Q)(hq:Que w (h0+2) 3 q' Q')(hb:q'.ownBlock=q.ownBlock):TState w h0 bR T vv lm G row q' R Q' :=
 ⟨hq,h.mp,h.ends,fun i hi=>by rw[hb];exact h.qa i hi,h.ne⟩
theorem TState.push{k:Nat}{o:Obj}(h:TState w h0 bR T vv lm G row q R Q)(hmp:Mp enc1 I64 evT w2 bR (Zks (R++[k])))(hg2:w.grownBy w2 (some bR))(hq:Que w3 (h0+2) 3 q' (Q++[k]))(hg3:(w2.alloc o).grownBy w3 q.ownBlock)
  (a:q'.ownBlock=q.ownBlock\/q'.ownBlock=some (w2.alloc o).heap.size):TState w3 h0 bR T vv lm G row q' (R++[k]) (Q++[k]):=by
 have n:=Zmg h.que h.mp hg2;have c:=n.below ((zr w2.heap.size w2).alloc zl o) zl;have j:=(h.ends.mp.kept_map h.mp (fun e=>h.ne e.symm) hg2).alloc o;have d:=(h.ends.rows.kept_map h.mp hg2).below ((zr w2.heap.size w2).alloc zl o) zl;have b:=hmp.alloc o;refine⟨hq,b.grown hg3 (Zvc b c),⟨j.grown hg3 (Zvc j c),d.kept hg3 h.qa,h.ends.is⟩,fun i hi=>?_,h.ne⟩;rcases a with a|a
 ·rw[a];exact h.qa i hi
 ·cases l:((lm.map Prod.snd)[i]'hi).ownBlock with
  | none=>exact .inl rfl
  | some g =>
   right;rw[a];intro f;injection f with f;have m:=d.fam.len;have:=((d.fam.own i (by simpa using hi) (by rw[<- m];simpa using hi)).lt g (by simpa using l)).2;omega
end
theorem Zxa(v v2:Value)(n:Nat)(vv:Int)(T:List T3)(tris:List Nat)(t0:Nat)(w:World){B:Nat}(hB0:B<=w.heap.size)(h:Sl 3 RTri w B v T)(h2:Sl 1 RInt w B v2 (tris.map fun n:Nat=>(n:Int)))
  (hp:Za6 n T) (hth:∀t∈T,Za5 t) (hn:tris.Nodup) (hlt:∀i∈tris,i<T.length) (hv:I64 vv) (ht0:tris.head? = some t0) :
  Calls Tryz.prog 168 #[.agg #[.int .i64 (n:Int),v],.int .i64 vv,v2] w fun e w'=>(∃b,e=.returned (.bool b)/\(b=true↔Conn T vv tris t0))/\Below w.heap.size w w':=by
 obtain⟨A,X,rfl,fx⟩:=h.form;obtain⟨A2,fr,rfl,dl⟩:=h2.form;rw[zL]at dl ⊢;obtain⟨p1,p2,p3,p4⟩:=hp;have et:tris.length<=8192:=Nat.le_trans (Zph tris (List.range T.length) hn fun i hi=>zR.2 (hlt i hi)) (by simpa using p3);have c:=(Bk.new w 24 [.int .i64 n,.slice A T.length X]).alloc (.map #[] 0);have f6:=((zr w.heap.size w).alloc zl (.cells #[.int .i64 n,.slice A T.length X] 24)).alloc (by simp) (.map #[] 0);have dz:=@run_makeMap Tryz.prog;have y:Ends ((w.alloc (.cells #[.int .i64 n,.slice A T.length X] 24)).alloc (.map #[] 0)) w.heap.size T vv [] [] (fun u=>([]:List Nat).filter (hasB T u)) :=
  ⟨Mp.new' (enc:=enc1) (ok:=I64) (ev:=(id:Value->Value)) (κ:=Int) (n:=w.heap.size+1) (w:=w.alloc (.cells #[.int .i64 n,.slice A T.length X] 24)) (by simp),GRows.nil _ _ _,fun u=>by rw[Zv2];simp⟩
 obtain⟨Hh,dp,dr,cr,f0,bb,c9,ei,f,C⟩:=zz10 h h2 p4 hth hn hlt hv ht0 c y;clear h h2 p4 hth hn hlt hv ht0 c y;go_enter Tryz.func168,Tryz.ntmps168;go_wp2;clear dz;go_loopw[22] (fun i wr=>∃(m:Nat) (U:List (Int×Value)) (G:List (Int×List Nat)),m<=tris.length/\i=.int .i64 m/\Ends wr w.heap.size T vv U G (fun u=>(tris.take m).filter (hasB T u))/\Bk wr w.heap.size 24 [.int .i64 n,.slice A T.length X]/\Below w.heap.size w wr)
  (fun i _=>tris.length-(intOf i).toNat)
 case atStart=>exact⟨0,[],[],by omega,rfl,C.out,f.out,f6⟩
 case round =>
  obtain⟨m,U,G,hm,rfl,y,c,z⟩:=hrel;have hz:=z.size;have e5:w.heap.size+1<wr.heap.size:=y.mp.lt;by_cases c4:m<tris.length
  ·obtain⟨b2,o2,cu,H,c0⟩:=(dp.out.below zadq (z.mono hB0)).int_at (k:=m) (by simpa using c4);subst cu;rw[List.getElem_map]at c0;have hi:=bb.out _ (zM c4);have e4:tris.take (m+1)=tris.take m++[tris[m]]:=zT c4;generalize dv:tris[m]=i at *;obtain⟨b,o,hA,hb,c1,c2,c3⟩:=(Hh.out.below zaaq (z.mono hB0)).tri_at hi;subst hA;have am:=dr.out _ (zM hi);have Y:=cr.out _ (zM hi);have b1:Zac T i=T[i]:=by unfold Zac;rw[zD,zG hi];rfl
   have d1:wr.cell? ⟨w.heap.size,1,none⟩=some (.slice (some ⟨b,o,none⟩) T.length X):=c.cell 1;generalize hx:T[i]=x at *;have bo:=fun j hj w=>triJ x j hj w
   obtain⟨C,f,ej,fk,b8,b0,bu,f1,bv⟩:=zz9 y c e4 dv am Y b1 hx bo;clear y c e4 dv am Y b1 hx bo;go_wp2;go_loopw[31] (fun jv wi=>∃(j:Nat) (U:List (Int×Value)) (G:List (Int×List Nat)),j<=3/\jv=.int .i64 j/\Ends wi w.heap.size T vv U G (fun u=>(tris.take m).filter (hasB T u)++if Zjm x j u then[i]else[])/\Bk wi w.heap.size 24 [.int .i64 n,.slice (some ⟨b,o,none⟩) T.length X]/\Below w.heap.size w wi)
    (fun jv _=>3-(intOf jv).toNat)
   case atStart=>exact⟨0,U,G,by omega,rfl,by simpa[Zkn]using C.out,f.out,z⟩
   case round =>
    clear c0 c1 c2 c3 d1;obtain⟨j,U,G,hj,rfl,y,c,z⟩:=hrel;have hz:=z.size;have e5:w.heap.size+1<wr.heap.size:=y.mp.lt;by_cases ar:j<3
    ·have ix:=bv.out j ar;obtain⟨ax,fb,b7⟩:=vx_I64 b8.out p2 j;have aw:=Zxv b0.out ar;have cf:=fun u=>Zf9 x j u
     generalize ad:vx x j=D at *;obtain⟨C,f,aj,P,ak,bg⟩:=zz6 y c ax aw cf ad;clear y c ax aw cf ad;by_cases ae:D=vv
     ·subst ae;have Z:Ends wr w.heap.size T D U G (fun u=>(tris.take m).filter (hasB T u)++if Zjm x (j+1) u then[i]else[]) :=
       ⟨C.out.mp,C.out.rows,fun u=>by
        rw[C.out.is u];by_cases hu:u=D
        ·rw[if_pos hu,if_pos hu]
        ·rw[if_neg hu,if_neg hu];have:(D==u)=false:=by simpa using fun e:D=u=>hu e.symm
         simp only[ak.out u,this,Bool.or_false]⟩
      have aa:=zz Z;clear Z;go_wp2;exact⟨⟨j+1,U,G,by omega,by simp,aa.out,f.out,z⟩,by simp[intOf];omega⟩
     ·have a4:=C.out.rows.row D;obtain⟨Av,bi,hv,dm⟩:=zaeq a4;have fa:(rowOf G D).length<=8192:=by
       rw[C.out.is D,if_neg ae,P.out];simp only[Bool.false_eq_true,if_false,List.append_nil];exact Nat.le_trans (List.length_filter_le _ _) (by rw[List.length_take];omega)
      have b6:rowOf G D=(tris.take m).filter (hasB T D):=by
       rw[C.out.is D,if_neg ae,P.out];simp
      generalize hg:rowOf G D=F at *;have bt:((Words.look U D).map id).getD (.slice none 0 0)=.slice Av F.length bi:=by rw[show ∀o:Option Value,o.map id=o from fun o=>by cases o<;>rfl];exact hv
      have S:=a4.alloc (.cells #[.int .i64 i] 3);rw[hv]at S;have au:=C.out.mp.alloc (.cells #[.int .i64 i] 3);have a0:=C.out.rows.below ((zr _ _).alloc zl (.cells #[.int .i64 i] 3)) zl;have a8:=f.out.alloc (.cells #[.int .i64 i] 3);have cw:=z.alloc hz (.cells #[.int .i64 i] 3);clear a4;obtain⟨c9,dq,bz,a1,af,a2,ai,bd⟩:=zz8 hv hg bt S au a0 a8 b6;clear hv hg bt S au a0 a8 b6;go_wp2_with(first
       | (at_lookup;refine zanq _ rfl _ _ 221 rfl 3 28 keyI Tryz.underlying221 Ztd (w.heap.size+1) U rfl C.out.mp D rfl aj.out ?_;rw[bz.out])
       | (at_builtin;refine zajq _ rfl (.tmp 41) (.tmp 43) 28 rfl (w.heap.size+2) Zap Tryz.underlying28 rfl (by omega) _ F.length (F.map encI) rfl a1.out wr.heap.size [.int .i64 i] rfl (Bk.new _ _ _) rfl (by simp[Value.oneCell']) (by omega) (by omega) (by simp;omega) ?_;intro v1 w3 cd dt aq ao;obtain⟨cq,O,b9⟩:=zz3 cd aq ao;clear cd aq ao)
       | (at_mapUpdate;refine zbdq _ rfl _ _ _ 221 rfl 3 28 keyI Tryz.underlying221 (w.heap.size+1) U rfl (af.out.kept_own a1.out O.out) D rfl aj.out v1 rfl ?_;intro w4 d3 cy ex;obtain⟨df,ba⟩:=zz2 d3 cy;clear d3 cy;clear ex))
      have e6:=af.out.kept_own a1.out O.out;have f4:(F++[i]).map encI=F.map encI++[.int .i64 (i:Int)]:=by rw[List.map_append];rfl
      have d9:Words.valOf (Words.ent U D (.slice none 0 0)) D=.slice Av F.length bi:=by unfold Words.valOf;rw[look_ent];exact c9.out
      have ci:=(a2.out.ent D).put (x:=D) (v':=v1) (L':=F++[i]) ((ent_keys G _ _ _).2 (.inl rfl)) (by rw[f4,zA];exact cq.out) (by rw[d9];exact O.out) (by
       rw[d9];exact b9.out.imp id fun L=>⟨_,L,by simp⟩)
      rw[put_ent,put_ent]at ci;refine⟨⟨j+1,_,_,by omega,by simp,{ mp:=df.out,rows:=ci.kept_map e6 ba.out,is:=fun u=>?_ },(ai.out.kept_own a1.out (by decide) O.out).kept_map e6 ba.out,(cw.trans (dt.mono (by omega))).grown ba.out (by have:=dt.size;simp at this;omega) (fun q hq=>by cases hq;omega)⟩,by simp[intOf];omega⟩;rw[Zv3];by_cases hu:D=u
      ·subst hu;rw[if_pos rfl,if_neg ae,bd.out,ak.out];simp
      ·rw[if_neg hu,C.out.is u];by_cases b7:u=vv
       ·rw[if_pos b7,if_pos b7]
       ·rw[if_neg b7,if_neg b7];have:(D==u)=false:=by simpa using hu
        simp only[ak.out u,this,Bool.or_false]
    ·have d2:j=3:=by omega
     subst d2;have Z:Ends wr w.heap.size T vv U G (fun u=>(tris.take (m+1)).filter (hasB T u)) :=
      ⟨y.mp,y.rows,fun u=>by
       rw[y.is u];by_cases hu:u=vv
       ·rw[if_pos hu,if_pos hu]
       ·rw[if_neg hu,if_neg hu,ej.out,List.filter_append,Zls]
        congr 1
        have:hasB T u i=decide (HasV x u):=by unfold hasB;rw[bu.out]
        rw[List.filter_cons,this];simp⟩
     obtain⟨C,aa,f⟩:=zz3 y Z c;clear y Z c;go_wp2;exact⟨⟨m+1,U,G,by omega,by simp,aa.out,f.out,z⟩,by simp[intOf];omega⟩
  ·have f8:m=tris.length:=by omega
   subst f8;simp only[List.take_length]at y;obtain⟨rest,cg⟩:∃rest,tris=t0::rest:=by
    have:=ei.out;cases tris with
    | nil=>cases this
    | cons a l=>simp at this;subst this;exact⟨l,rfl⟩
   have ah:t0∈tris:=by rw[cg];exact List.mem_cons_self
   have dk:0<tris.length:=List.length_pos_of_mem ah;obtain⟨b2,o2,cu,H,c0⟩:=(dp.out.below zadq (z.mono hB0)).int_at (k:=0) (by simpa using dk);subst cu;have e0:tris[0]=t0:=by simp only[cg];rfl
   rw[List.getElem_map,Nat.add_zero,e0]at c0;have fs:=bb.out t0 ah;have d5:I64 (t0:Int):=I64.nat (by omega);have aw:Mp enc1 I64 evT (wr.alloc (.map #[] 0)) wr.heap.size ([]:List (Int×Unit)):=Mp.new wr;have cw:=z.alloc hz (.map #[] 0);have au:=y.mp.alloc (.map #[] 0);have a0:=y.rows.below ((zr _ _).alloc zl (.map #[] 0)) zl;have a8:=c.alloc (.map #[] 0);have dz:=@run_makeMap Tryz.prog;have dw:=y.is;obtain⟨bR,du⟩:∃bR,bR=wr.heap.size:=⟨_,rfl⟩;have fv:b2<wr.heap.size:=by omega
   obtain⟨C,f,fp,ck,ge,dh,P,af,a2,ai,e7,cm⟩:=zz12 y c cg ah e0 d5 aw au a0 a8 dw du;clear y c cg ah e0 d5 aw au a0 a8 dw du;go_wp2_with(refine wpList_insert _ rfl _ _ _ 85 rfl 3 4 keyI Tryz.underlying85 wr.heap.size [] rfl P.out (t0:Int) rfl dh.out () rfl ?_;intro w2 ac W bl;have ap:=cw.grown W (by simp;omega) (fun q hq=>by cases hq;omega);have db:=ap.size;have ew:wr.heap.size+1<=w2.heap.size:=(by rw[bl];simp);have c2:=((zr wr.heap.size wr).alloc zl (.map #[] 0)).grown W (by simp) (fun q hq=>by cases hq;omega) |>.cell (p:=⟨b2,o2,none⟩) (by simp;omega) |>.trans c0;obtain⟨bc,K⟩:=zz2 ac W;clear ac W;clear bl);have s:TState (w2.alloc (.cells #[.int .i64 t0] 3)) w.heap.size wr.heap.size T vv U G (fun u=>tris.filter (hasB T u)) (.slice (some ⟨w2.heap.size,0,none⟩) 1 1) [t0] [t0]:=by
    have m2:=(af.out.kept_map P.out (by omega) K.out).alloc (.cells #[.int .i64 t0] 3);have r2:=(a2.out.kept_map P.out K.out).below ((zr w2.heap.size w2).alloc zl (.cells #[.int .i64 t0] 3)) zl;refine⟨Que.one w2 _ t0 (by omega),bc.out.alloc _,⟨m2,r2,e7.out⟩,fun i hi=>?_,by omega⟩;cases hb:((U.map Prod.snd)[i]'hi).ownBlock with
    | none=>exact .inl rfl
    | some g =>
     right;intro he;have gl:g=w2.heap.size:=by simpa[Value.ownBlock]using he
     have r3:=a2.out.kept_map P.out K.out;have hl:=r3.fam.len;have:=((r3.fam.own i (by simpa using hi) (by rw[<- hl];simpa using hi)).lt g (by simpa using hb)).2;omega
   have d:=Bfs.begin_ (T:=T) (v:=vv) ck.out;have ca:=(ai.out.kept_map P.out K.out).alloc (.cells #[.int .i64 t0] 3);have ds:=ap.alloc db (.cells #[.int .i64 t0] 3);rw[<- cm.out]at s ⊢;have es:=cm.out;have fw:w.heap.size+2<=bR:=by omega
   obtain⟨E,J,cn⟩:=zz3 s d ca;clear s d ca;clear es c2 c0;go_loopw[13] (fun q wi=>∃(R Q:List Nat),TState wi w.heap.size bR T vv U G (fun u=>tris.filter (hasB T u)) q R Q/\Bfs T vv tris t0 R Q (fun _ _=>False)/\2*(tris.length-R.length)+Q.length<=2*tris.length/\Bk wi w.heap.size 24 [.int .i64 n,.slice A T.length X]/\Below w.heap.size w wi)
    (fun q wi=>2*(tris.length-Zqz wi bR)+sliceLen q)
   case atStart=>exact⟨[t0],[t0],E.out,J.out,by simp;omega,cn.out,ds⟩
   case round =>
    obtain⟨R,Q,s,d,f5,c,z⟩:=hrel;have hz:=z.size;have hR:=s.mp.msize;unfold Zks at hR;rw[zL]at hR;obtain⟨g,off,bh,hq,f7⟩:=s.que.form;subst hq;have gi:=d.le;cases Q with
    | nil =>
     have cc:((R.length:Int)==(tris.length:Int))=true↔Conn T vv tris t0:=by
      rw[<- d.end_ f0.out,beq_iff_eq];omega
     have e1:=s.mp;have dx:(Zks R).length=R.length:=by unfold Zks;simp
     obtain⟨E,J,f,co,ef,eb⟩:=zz6 s d c cc e1 dx;clear s d c cc e1 dx;go_wp2_with(at_len;refine wpList_len _ rfl _ 85 rfl 3 4 Tryz.underlying85 bR (Zks R) rfl ef.out ?_;rw[eb.out]);go_ret;exact⟨⟨_,rfl,co.out⟩,z⟩
    | cons i Q =>
     have I:=d.wait i List.mem_cons_self;have hit:=d.sub i I;have bj:=bb.out i hit;obtain⟨b,o,hA,hb,c1,c2,c3⟩:=(Hh.out.below zaaq (z.mono hB0)).tri_at bj;subst hA;have am:=dr.out _ (zM bj);have Y:=cr.out _ (zM bj);have b1:Zac T i=T[i]:=by unfold Zac;rw[zD,zG bj];rfl
     have d1:wr.cell? ⟨w.heap.size,1,none⟩=some (.slice (some ⟨b,o,none⟩) T.length X):=c.cell 1;generalize hx:T[i]=x at *;have bo:=fun j hj w=>triJ x j hj w
     have d6:=(d.pop).mono (o':=O1 T vv i x 0) fun r k _ L=>.inr (adj_O1 b1 L)
     have ch:=s.que.head;have bs:=s.que.tail;simp only[List.length_cons]at f7 ch bs s ⊢;have c6:=s.tail bs.1 rfl;have d7:=fun L:bh=1=>s.tail (bs.2 L) rfl
     simp only[Nat.add_sub_cancel]at c6;have e2:2*(tris.length-Zqz wr bR)+(Q.length+1)=2*(tris.length-R.length)+Q.length+1:=by rw[hR];omega
     obtain⟨MU,gg⟩:∃MU,MU=2*(tris.length-R.length)+Q.length:=⟨_,rfl⟩;simp only[List.length_cons]at f5;have ft:MU<=16384:=by omega
     have fu:MU+1<=2*tris.length:=by omega
     have d4:2*(tris.length-Zqz wr bR)+(Q.length+1)=MU+1:=by omega
     obtain⟨E,J,f,b8,b0,bu,f1,bv,di,fo,dj,c8⟩:=zz12 s d c am Y b1 hx bo d6 bs c6 d7;obtain⟨N,fl,fm,dg,gf⟩:=zz5 I hit e2 d4 hR;clear s d c am Y b1 hx bo d6 bs c6 d7 I hit e2 d4 hR;rcases(show(bh=1/\Q=[])\/bh≠1 from if L:bh=1 then .inl ⟨L,List.eq_nil_of_length_eq_zero (by omega)⟩else .inr L)with⟨rfl,rfl⟩|gj
     all_goals
      go_wp2;go_loopw[13,69] (fun q jv wi=>∃(j:Nat) (R Q:List Nat),j<=3/\jv=.int .i64 j/\TState wi w.heap.size bR T vv U G (fun u=>tris.filter (hasB T u)) q R Q/\Bfs T vv tris t0 R Q (O1 T vv i x j)/\i∈R/\2*(tris.length-R.length)+Q.length<=MU /\
        Bk wi w.heap.size 24 [.int .i64 n,.slice (some ⟨b,o,none⟩) T.length X]/\Below w.heap.size w wi)
       (fun _ jv _=>3-(intOf jv).toNat)
      case atStart=>exact⟨0,R,_,by omega,rfl,by first|exact c8.out rfl|exact c8.out trivial|exact dj.out,di.out,N.out,by omega,f.out,z⟩
      case round =>
       clear ch c1 c2 c3 d1;obtain⟨j,R,Q,hj,rfl,s,d,I,b5,c,z⟩:=hrel;have hz:=z.size;obtain⟨g9,ga,fi,hq,fz⟩:=s.que.form;subst hq;by_cases ar:j<3
       ·have ix:=bv.out j ar;obtain⟨ax,fb,b7⟩:=vx_I64 b8.out p2 j;generalize ad:vx x j=D at *;by_cases ae:D=vv
        ·subst ae;have H:=d.mono (o':=O1 T D i x (j+1)) fun r k _ L=>.inr (by rw[<- ad]at L ⊢;exact O1_skip L)
         obtain⟨E,J,M,f,aj,bg,N⟩:=zz7 s d H c ax ad I;clear s d H c ax ad I;go_wp2;exact⟨⟨j+1,R,Q,by omega,by simp,E.out,M.out,N.out,b5,f.out,z⟩,by simp[intOf];omega⟩
        ·have a4:=s.ends.rows.row D;obtain⟨Av,bi,hv,dm⟩:=zaeq a4;have b6:rowOf G D=tris.filter (hasB T D):=by rw[s.ends.is D,if_neg ae]
         have fa:(rowOf G D).length<=8192:=by rw[b6];exact Nat.le_trans (List.length_filter_le _ _) et
         generalize hg:rowOf G D=F at *;have bt:((Words.look U D).map id).getD (.slice none 0 0)=.slice Av F.length bi:=by rw[show ∀o:Option Value,o.map id=o from fun o=>by cases o<;>rfl];exact hv
         have H:=d.mono (o':=O2 T vv i x j F 0) fun r k _ L=>.inr (O1_O2 L)
         clear a4;obtain⟨E,J,M,f,aj,bg,N,c9,dq,bz,bd⟩:=zz11 s d H c ax ad I hv hg bt b6;clear s d H c ax ad I hv hg bt b6;go_wp2_with(at_lookup;refine zanq _ rfl _ _ 221 rfl 3 28 keyI Tryz.underlying221 Ztd (w.heap.size+1) U rfl E.out.ends.mp D rfl aj.out ?_;rw[bz.out]);go_loopw[13,79] (fun q pv wi=>∃(p:Nat) (R Q:List Nat),p<=F.length/\pv=.int .i64 p/\TState wi w.heap.size bR T vv U G (fun u=>tris.filter (hasB T u)) q R Q/\Bfs T vv tris t0 R Q (O2 T vv i x j F p)/\i∈R/\2*(tris.length-R.length)+Q.length<=MU /\
           Bk wi w.heap.size 24 [.int .i64 n,.slice (some ⟨b,o,none⟩) T.length X]/\Below w.heap.size w wi)
          (fun _ pv _=>F.length-(intOf pv).toNat)
         case atStart=>exact⟨0,R,Q,by omega,rfl,E.out,M.out,N.out,b5,f.out,z⟩
         case round =>
          obtain⟨p,R,Q,hp,rfl,s,d,I,b5,c,z⟩:=hrel;have hz:=z.size;obtain⟨g7,g8,fh,hq,fy⟩:=s.que.form;subst hq;by_cases c5:p<F.length
          ·have S:=s.ends.rows.row D;rw[c9.out,dq.out]at S;obtain⟨b3,o3,rfl,ds,c1⟩:=(ints_own S).int_at (k:=p) (by simpa using c5);rw[List.getElem_map]at c1;have bq:F[p]∈tris.filter (hasB T D):=by rw[<- bd.out];exact zM c5
           have a3:=fun r k' (L:O2 T vv i x j F p r k')=>O2_next c5 L
           generalize cb:F[p]=k at *;obtain⟨b4,bp⟩:=zQ.1 bq;have an:AdjT T vv i k:=⟨D,ae,by rw[bu.out,<- bg.out];exact vx_has.2 ⟨j,ar,rfl⟩,of_decide_eq_true bp⟩;have g2:=bb.out k b4;have bk:I64 (k:Int):=I64.nat (by omega);by_cases a9:k∈R
           ·have br:((Words.look (Zks R) (k:Int)).map evT).getD (.bool false)=.bool true:=by
             obtain⟨u,hu⟩:=Option.isSome_iff_exists.1 ((zayq (Zks R) (k:Int)).2 ((Zu4 R k).2 a9));rw[hu];rfl
            have H:=d.mono (o':=O2 T vv i x j F (p+1)) fun r k' _ L=>(a3 r k' L).imp (fun e=>by rw[e];exact a9) id
            have av:=s.mp;obtain⟨E,J,M,f,ag,bw,dd,ec,e8,ee,ea,e9⟩:=zz12 s d H c bk br an bq a9 b4 bp cb;obtain⟨cp,a1,N,V⟩:=zz4 a3 S I av;clear s d H c bk br an bq a9 b4 bp cb a3 S I av;go_wp2_with(at_lookup;refine zanq _ rfl _ _ 85 rfl 3 4 keyI Tryz.underlying85 Zbq bR (Zks R) rfl V.out (k:Int) rfl ag.out ?_;rw[bw.out]);exact⟨⟨p+1,R,Q,by omega,by simp,E.out,M.out,N.out,b5,f.out,z⟩,by simp[intOf];omega⟩
           ·have br:((Words.look (Zks R) (k:Int)).map evT).getD (.bool false)=.bool false:=by
             rw[(Zgv (Zks R) (k:Int)).2 (by rw[Zu4];exact a9)];rfl
            have H:=d.push (o':=O2 T vv i x j F (p+1)) b4 a9 I an fun r k' _ L=>a3 r k' L
            have ce:=H.le;rw[zA]at ce;simp only[List.length_cons,List.length_nil]at ce;have cz:i∈R++[k]:=zP.2 (.inl I);have dy:=keysR_put a9;have av:=s.mp;have gh:Q.length<=24576:=by omega
            have e5:w.heap.size+2<=wr.heap.size:=by have:=s.mp.lt;omega
            have d8:=s.que;obtain⟨E,J,M,f,ag,bw,dd,ec,e8,ee,ea,e9⟩:=zz12 s d H c bk br an bq a9 b4 bp cb;obtain⟨cp,a1,N,V,de,ed,be⟩:=zz7 a3 S I av cz dy d8;clear s d H c bk br an bq a9 b4 bp cb a3 S I av cz dy d8;go_wp2_with(first
             | (at_lookup;refine zanq _ rfl _ _ 85 rfl 3 4 keyI Tryz.underlying85 Zbq bR (Zks R) rfl V.out (k:Int) rfl ag.out ?_;rw[bw.out])
             | (at_mapUpdate;refine zbdq _ rfl _ _ _ 85 rfl 3 4 keyI Tryz.underlying85 bR (Zks R) rfl V.out (k:Int) rfl ag.out () rfl ?_;intro w2 ac W bl;have ap:=z.grown W hz (fun q hq=>by cases hq;omega);have db:=ap.size;have ew:=W.size;rw[ed.out]at ac;obtain⟨bc,K⟩:=zz2 ac W;clear ac W;clear bl)
             | (at_builtin;refine Zri _ rfl (.tmp 89) (.tmp 91) 28 rfl (w.heap.size+2) Zap Tryz.underlying28 _ Q rfl ((Zmg be.out V.out K.out).below ((zr _ _).alloc zl _) zl) k ⟨w2.heap.size,0,none⟩ 1 rfl ((Bk.new w2 3 [.int .i64 k]).cell 0) (by omega) (by simp;omega) ?_;intro v1 w3 e3 aq ao;obtain⟨eh,O,b9⟩:=zz3 e3 aq ao;clear e3 aq ao))
            have eu:=E.out.push bc.out K.out eh.out O.out b9.out;have ff:=(Zmg be.out V.out K.out).below ((zr _ _).alloc zl (.cells #[.int .i64 k] 3)) zl;have bx:=(f.out.kept_map V.out K.out).alloc (.cells #[.int .i64 k] 3);refine⟨⟨p+1,_,_,by omega,by simp,eu,M.out,de.out,by simp only[zA,List.length_cons,List.length_nil];omega,bx.grown O.out fun e=>?_,?_⟩,by simp[intOf];omega⟩
            ·obtain⟨g0,gk⟩:=be.out.lt _ e.symm;omega
            ·exact(ap.alloc db _).grown O.out (by simp;omega) fun q hq=>by have:=(ff.lt q hq).1;omega
          ·have ce:p=F.length:=by omega
           subst ce;have H:=d.mono (o':=O1 T vv i x (j+1)) fun r k' hk' L=>.inr (by
            have h8:=L;rw[bd.out,<- bg.out]at h8;exact O2_O1 hk' h8)
           obtain⟨E,J,M,f,N⟩:=zz5 s d H c I;clear s d H c I;go_wp2;exact⟨⟨j+1,R,Q,by omega,by simp,E.out,M.out,N.out,b5,f.out,z⟩,by simp[intOf];omega⟩
       ·have d2:j=3:=by omega
        subst d2;have H:=d.mono (o':=fun _ _=>False) fun r k _ L=>.inr (O1_three L)
        have bn:=s.mp.msize;unfold Zks at bn;rw[zL]at bn;have g4:2*(tris.length-Zqz wr bR)+Q.length<=MU:=by rw[bn];exact b5
        obtain⟨E,J,M,f,N,fj⟩:=zz6 s d H c I bn;clear s d H c I bn;go_wp2;refine⟨⟨R,Q,E.out,M.out,by omega,f.out,z⟩,?_⟩;have L:=dg.out;simp only[sliceLen];omega
end Go.Proofs.YtpbdcppaiafbgaaGreat
namespace Go.Mesh
def Zbz(T:List T3)(u:Int):List Nat:=(List.range T.length).filter (hasB T u)
def Zfq(T:List T3)(u:Int):Prop:=∃t0,(Zbz T u).head? = some t0/\Conn T u (Zbz T u) t0
theorem trisAt_nodup(T:List T3)(u:Int):(Zbz T u).Nodup:=(List.nodup_range).filter _
theorem trisAt_lt(T:List T3)(u:Int):∀i∈Zbz T u,i<T.length:=fun _ hi=>zR.1 (zQ.1 hi).1
theorem Zqa{T:List T3}{u:Int}(h:∃t∈T,HasV t u):∃t0,(Zbz T u).head? = some t0:=by
 obtain⟨t,d,e⟩:=h;obtain⟨i,hi,rfl⟩:=zE d;have b:i∈Zbz T u:=zQ.2 ⟨zR.2 hi,by unfold hasB Zac;rw[zD,zG hi];exact zY e⟩;cases c:Zbz T u with
 | nil=>rw[c]at b;cases b
 | cons a l=>exact⟨a,rfl⟩
end Go.Mesh
namespace Go.Proofs.YtpbdcppaiafbgaaGreat
open Go Go.RowKit Go.Words Go.Mesh
theorem Zuv:(Tryz.prog.info? 28).map (fun i=>(i.zero,i.size,i.bytes))=some (some (.slice none 0 0),1,24):=by kernel_rfl
structure RowsAt (w : World) (g base n : Nat) (vs : List Value) (Ls : List (List Nat)) (row : Nat -> List Nat) : Prop where
 bk:Bk w g 28 vs
 fam:Fam w base 3 vs Ls
 len:Ls.length=n
 is:∀u (h:u<Ls.length),Ls[u]=row u
theorem pinch_calls(v:Value)(n:Nat)(T:List T3)(w:World){B:Nat}(hB0:B<=w.heap.size)(h:Sl 3 RTri w B v T)(hp:Za6 n T)(hth:∀t∈T,Za5 t)(hus:∀u:Nat,u<n->∃t∈T,HasV t u) :
  Calls Tryz.prog 150 #[.agg #[.int .i64 (n:Int),v]] w fun e w'=>(∃v',e=.returned v'/\Wits w' w.heap.size v' 6 (∀u:Nat,u<n->Zfq T u))/\Below w.heap.size w w':=by
 obtain⟨A,M,rfl,d6⟩:=h.form;have bm:=hp;obtain⟨p1,p2,p3,p4⟩:=hp;have ch:=(zr w.heap.size w).alloc zl (.cells #[.int .i64 n,.slice A T.length M] 24);have cq:=Zaq (P:=Tryz.prog) 78 Tryz.underlying78 Zuv rfl n (by omega) (by omega);have c:RowsAt ((w.alloc (.cells #[.int .i64 n,.slice A T.length M] 24)).alloc (.cells (List.replicate n (.slice none 0 0)).toArray 28)) (w.heap.size+1) (w.heap.size+2) n (List.replicate n (.slice none 0 0)) (List.replicate n []) (fun u=>(List.range 0).filter (hasB T u)) :=
  ⟨Bk.new' _ _ (by simp),Fam.nils _ _ _ _,by simp,fun u h=>by simp⟩
 have d:=(Bk.new w 24 [.int .i64 n,.slice A T.length M]).alloc (.cells (List.replicate n (.slice none 0 0)).toArray 28);have ci:=ch.alloc (by simp) (.cells (List.replicate n (.slice none 0 0)).toArray 28);obtain⟨Hh,bz,ce,ap,c5,f,m⟩:=zz7 h bm p4 hth hus c d;clear h bm p4 hth hus c d;go_enter Tryz.func150,Tryz.ntmps150;go_wp2;clear cq;go_loopw[17] (fun i wr=>∃(k:Nat) (r:List Value) (s:List (List Nat)),k<=T.length/\i=.int .i64 k/\RowsAt wr (w.heap.size+1) (w.heap.size+2) n r s (fun u=>(List.range k).filter (hasB T u))/\Bk wr w.heap.size 24 [.int .i64 n,.slice A T.length M]/\Below w.heap.size w wr)
  (fun i _=>T.length-(intOf i).toNat)
 case atStart=>exact⟨0,_,_,by omega,rfl,f.out,m.out,ci⟩
 case round =>
  obtain⟨k,r,s,hk,rfl,c,d,g⟩:=hrel;have hz:=g.size;have bs:w.heap.size+1<wr.heap.size:=c.bk.lt;by_cases a9:k<T.length
  ·obtain⟨b,o,hA,hb,c1,c2,c3⟩:=(Hh.out.below zaaq (g.mono hB0)).tri_at a9;subst hA;have au:=ce.out _ (zM a9);have a0:=ap.out _ (zM a9);have bi:Zac T k=T[k]:=by unfold Zac;rw[zD,zG a9];rfl
   generalize hx:T[k]=x at *;have bj:=fun j hj w=>triJ x j hj w
   have b2:RowsAt (wr.alloc (.cells #[.int .i64 x.1,.int .i64 x.2.1,.int .i64 x.2.2] 57)) (w.heap.size+1) (w.heap.size+2) n r s (fun u=>(List.range k).filter (hasB T u)++if Zjm x 0 u then[k]else[]) :=
    ⟨c.bk.alloc _,c.fam.below ((zr _ _).alloc zl _) zl,c.len,fun u hu=>by rw[c.is u hu,Zkn];simp⟩
   have a8:=d.alloc (.cells #[.int .i64 x.1,.int .i64 x.2.1,.int .i64 x.2.2] 57);have a1:=g.alloc hz (.cells #[.int .i64 x.1,.int .i64 x.2.1,.int .i64 x.2.2] 57);have dc:b<wr.heap.size:=by omega
   obtain⟨f,m,b6,ah,bu,db,bx,b9,am⟩:=zz9 c d au a0 bi hx bj b2 a8;clear c d au a0 bi hx bj b2 a8;go_wp2;clear c1 c2 c3;go_loopw[23] (fun jv wi=>∃(j:Nat) (r:List Value) (s:List (List Nat)),j<=3/\jv=.int .i64 j/\RowsAt wi (w.heap.size+1) (w.heap.size+2) n r s (fun u=>(List.range k).filter (hasB T u)++if Zjm x j u then[k]else[])/\Bk wi w.heap.size 24 [.int .i64 n,.slice (some ⟨b,o,none⟩) T.length M]/\Below w.heap.size w wi)
    (fun jv _=>3-(intOf jv).toNat)
   case atStart=>exact⟨0,r,s,by omega,rfl,b9.out,am.out,a1⟩
   case round =>
    obtain⟨j,r,s,hj,rfl,c,d,g⟩:=hrel;have hz:=g.size;have bs:w.heap.size+1<wr.heap.size:=c.bk.lt;by_cases az:j<3
    ·have ix:=bx.out j az;obtain⟨bl,cr,de⟩:=vx_I64 b6.out p2 j;have a2:=Zxv ah.out az;have ac:=fun u=>Zf9 x j u
     generalize bq:vx x j=u0 at *;obtain⟨a,rfl⟩:=Int.eq_ofNat_of_zero_le cr;have av:a<s.length:=by rw[c.len];omega
     have a7:a<r.length:=by rw[c.fam.len];exact av
     have p:=c.fam.own a a7 av;obtain⟨Av,c7,hv,bd⟩:=zaeq p;have ay:s[a]=(List.range k).filter (hasB T a):=by rw[c.is a av,a2];simp
     have d7:s[a].length<=8192:=by rw[ay];exact Nat.le_trans (List.length_filter_le _ _) (by simp;omega)
     have d1:wr.cell? ⟨w.heap.size+1,a,none⟩=some r[a]:=by rw[c.bk.cell,zG a7]
     have f1:=c.bk.frozen;generalize hg:s[a]=F at *;rw[hv]at d1 p;have aa:=p.alloc (.cells #[.int .i64 k] 3);have a1:=g.alloc hz (.cells #[.int .i64 k] 3);obtain⟨f,m,cw,ct,Z,cx,ba,K,aq,da,bw⟩:=zz11 c d bl a2 ac bq p aa hv hg ay;clear c d bl a2 ac bq p aa hv hg ay;go_wp2_with(at_builtin;refine zajq _ rfl (.tmp 31) (.tmp 33) 28 rfl (w.heap.size+2) Zap Tryz.underlying28 rfl (by omega) _ F.length (F.map encI) rfl K.out wr.heap.size [.int .i64 k] rfl (Bk.new _ _ _) rfl (by simp[Value.oneCell']) (by omega) (by omega) (by simp;omega) ?_;intro v1 w3 z G E aw;obtain⟨ai,W,rfl,ck⟩:=zaeq z;have a6:=(f.out.bk.alloc (.cells #[.int .i64 k] 3)).kept_own K.out (by decide) E;have d3:w3.cell? ⟨w.heap.size+1,a,none⟩=some r[a]:=(by rw[a6.cell,zG a7]);have f3:=a6.frozen;obtain⟨J,y,b7,aj⟩:=zz4 z E aw a6;clear z E aw a6);have cg:(F++[k]).map encI=F.map encI++[.int .i64 (k:Int)]:=by rw[List.map_append];rfl
     have ca:=f.out.fam.below ((zr _ _).alloc zl (.cells #[.int .i64 k] 3)) zl;have X:=ca.set (i:=a) a7 (v':=.slice ai (F.length+1) W) (L':=F++[k]) (by rw[cg,zA];exact J.out) (by rw[aq.out];exact y.out) (by
      rw[aq.out];exact b7.out.imp id fun q=>⟨_,q,zl⟩)
     have cf:=aj.out.set a (.slice ai (F.length+1) W);have c6:=(m.out.alloc (.cells #[.int .i64 k] 3)).kept_own K.out (by decide) y.out;have c9:=X.kept (w':=w3.setCell ⟨w.heap.size+1,a,none⟩ (.slice ai (F.length+1) W)) (row:=some (w.heap.size+1)) ⟨rfl,rfl,rfl,by simp,fun i hi hne=>Below.heap_setCell _ _ _ _ (fun e=>hne (by rw[e]))⟩ (X.not_type aj.out (by decide));refine⟨⟨j+1,_,_,by omega,by simp,⟨cf,c9,by rw[List.length_set];exact f.out.len,fun u hu=>?_⟩,c6.far (by simp) _,((a1.trans (G.mono (by omega))).setCell (by simp) _)⟩,by simp[intOf];omega⟩;simp only[List.length_set]at hu;rw[List.getElem_set];by_cases ax:a=u
     ·subst ax;rw[if_pos rfl,bw.out,Z.out];simp
     ·rw[if_neg ax,f.out.is u hu,Z.out];have:((a:Int)==(u:Int))=false:=by simpa using fun e:(a:Int)=u=>ax (by omega)
      rw[this,Bool.or_false]
    ·have co:j=3:=by omega
     subst co;have b1:RowsAt wr (w.heap.size+1) (w.heap.size+2) n r s (fun u=>(List.range (k+1)).filter (hasB T u)) :=
      ⟨c.bk,c.fam,c.len,fun u hu=>by
       rw[c.is u hu,List.range_succ,List.filter_append,Zls]
       congr 1
       have:hasB T u k=decide (HasV x u):=by unfold hasB;rw[bu.out]
       rw[List.filter_cons,this];simp⟩
     obtain⟨f,b8,m⟩:=zz3 c b1 d;clear c b1 d;go_wp2;exact⟨⟨k+1,r,s,by omega,by simp,b8.out,m.out,g⟩,by simp[intOf];omega⟩
  ·have cp:k=T.length:=by omega
   subst cp;have df:r.length=n:=by rw[c.fam.len,c.len]
   obtain⟨f,m⟩:=zz2 c d;clear c d;go_wp2;have HX:True:=trivial;go_loopw[8,40] (fun l i wi=>∃(u:Nat) (L:List T3),u<=n/\i=.int .i64 u/\wi.ownsRow (w.heap.size+2) 48 3 l L.length (Zal L)/\(L=[]↔∀a:Nat,a<u->Zfq T a)/\(∀x∈L,x.1=6)/\L.length<=u /\
     RowsAt wi (w.heap.size+1) (w.heap.size+2) n r s (fun u=>Zbz T u)/\Bk wi w.heap.size 24 [.int .i64 n,.slice A T.length M]/\Below w.heap.size w wi)
    (fun _ i _=>n-(intOf i).toNat)
   case atStart=>exact⟨0,[],by omega,rfl,zn _ _ _ _,by simp,by simp,by simp,f.out,m.out,g⟩
   case round =>
    obtain⟨u,L,hu,rfl,N,hL,I,dd,c,d,g⟩:=hrel;have hz:=g.size;have bs:w.heap.size+1<wr.heap.size:=c.bk.lt;obtain⟨A5,d4,rfl,cu⟩:=zaeq N;by_cases b0:u<n
    ·have ae:u<s.length:=by rw[c.len];exact b0
     have br:u<r.length:=by omega
     have p:=c.fam.own u br ae;rw[c.is u ae]at p;obtain⟨Av,c7,hv,bd⟩:=zaeq p;have d1:wr.cell? ⟨w.heap.size+1,u,none⟩=some r[u]:=by rw[c.bk.cell,zG br]
     rw[hv]at d1 p;have e0:wr.cell? ⟨w.heap.size,0,none⟩=some (.int .i64 n):=d.cell 0;have e1:wr.cell? ⟨w.heap.size,1,none⟩=some (.slice A T.length M):=d.cell 1;obtain⟨t0,ad⟩:=Zqa (c5.out u b0);have bp:(∀a:Nat,a<u+1->Zfq T a)↔(∀a:Nat,a<u->Zfq T a)/\Zfq T u :=
      ⟨fun q=>⟨fun a ha=>q a (by omega),q u (by omega)⟩,fun q a ha=>if he:a=u then he ▸ q.2 else q.1 a (by omega)⟩
     have bn:Zfq T u↔Conn T u (Zbz T u) t0:=⟨fun⟨t1,h8,q⟩=>by rw[ad]at h8;injection h8 with h8;subst h8;exact q,fun q=>⟨t0,ad,q⟩⟩;have bo:=ints_own p;obtain⟨U,ak,C,f,m,ba,ao,an,c4,c0,aq⟩:=zz11 N hL I c d p bp bn ad bo hv;clear N hL I c d p bp bn ad bo hv;go_wp2_with fail;refine(Zxa _ _ n u T (Zbz T u) t0 _ zl ((Hh.out.below zaaq (g.mono hB0)).keep zaaq (zr _ _) (by omega)) c0.out bz.out ap.out (trisAt_nodup T u) (trisAt_lt T u) (I64.nat (by omega)) c4.out).mono ?_;rintro e w1 ⟨⟨bb,rfl,Q⟩,G⟩;have Y:=zapq g G hz;have dg:=G.size;have O:=zafq U.out G zl;have ag:RowsAt w1 (w.heap.size+1) (w.heap.size+2) n r s (fun u=>Zbz T u):=⟨f.out.bk.below G (by omega),f.out.fam.below G zl,f.out.len,f.out.is⟩;have V:=m.out.below G (by omega);cases bb
     ·have bh:L++[(6,(u:Int),0)]=[]↔∀a:Nat,a<u+1->Zfq T a:=⟨fun q=>by simp at q,fun q=>by have:=Q.2 (an.out.1 (ao.out.1 q).2);cases this⟩;have af:∀x∈L++[(6,(u:Int),0)],x.1=6:=by
       intro x hx;rcases zP.1 hx with q|q
       ·exact C.out x q
       ·have:x=(6,(u:Int),0):=by simpa using q
        rw[this]
      have b4:=O.alloc (.cells #[.int .i64 6,.int .i64 u,.int .i64 0] 48);have a1:=Y.alloc Y.size (.cells #[.int .i64 6,.int .i64 u,.int .i64 0] 48);obtain⟨a5,D,S,bt,ar,H,bv⟩:=zz7 O ag V bh af b4 Q;clear O ag V bh af b4 Q;go_wp2_with(at_builtin;refine zajq _ rfl (.tmp 50) (.tmp 53) 160 rfl (w.heap.size+2) Zkq Tryz.underlying160 rfl (by omega) _ L.length (Zal L) rfl H.out w1.heap.size [.int .i64 6,.int .i64 u,.int .i64 0] rfl (Bk.new _ _ _) rfl (by simp[Value.oneCell']) (by omega) (by omega) (by simp;omega) ?_;intro v1 w3 z cj E _;obtain⟨J,y⟩:=zz2 z E;clear z E);have R:RowsAt (w1.alloc (.cells #[.int .i64 6,.int .i64 u,.int .i64 0] 48)) (w.heap.size+1) (w.heap.size+2) n r s (fun u=>Zbz T u):=⟨D.out.bk.alloc _,D.out.fam.below ((zr _ _).alloc zl _) zl,D.out.len,D.out.is⟩;have X:Fam w3 (w.heap.size+2) 3 r s:=R.fam.kept y.out fun i hi=>Zbi H.out (R.fam.own i hi (by rw[<- R.fam.len];exact hi)) (by decide)
      exact⟨⟨u+1,_,by omega,by simp,by rw[Zfk,zA];exact J.out,bt.out,ar.out,by simp;omega,⟨R.bk.kept_own H.out (by decide) y.out,X,R.len,R.is⟩,(S.out.alloc _).kept_own H.out (by decide) y.out,a1.trans (cj.mono (by omega))⟩,by simp[intOf];omega⟩
     ·have good:L=[]↔∀a:Nat,a<u+1->Zfq T a:=by rw[ao.out,ak.out];exact⟨fun q=>⟨q,an.out.2 (Q.1 rfl)⟩,fun q=>q.1⟩
      obtain⟨a5,D,S,b5,bv⟩:=zz5 O ag V good Q;clear O ag V good Q;go_wp2;exact⟨⟨u+1,L,by omega,by simp,a5.out,b5.out,C.out,by omega,D.out,S.out,Y⟩,by simp[intOf];omega⟩
    ·have ae:u=n:=by omega
     subst ae;obtain⟨U,ak,C⟩:=zz3 N hL I;clear N hL I;go_wp2;go_ret;exact⟨⟨_,rfl,L,zalq U.out (by omega),ak.out,C.out,by omega⟩,g⟩
