/- The row of GlueJoins, proved: for every input the law returns true; each argument reads as it did. -/
import Derived.Test.YtpbdcppaiafbgaaGreatNY
import Derived.Test.YtpbdcppaiafbgaaGreatON
set_option maxRecDepth 100000
set_option maxHeartbeats 8000000
namespace Go.Proofs.YtpbdcppaiafbgaaGreat
open Go.ChangeShapes Go.WideShapes Go.ChangeAt Go.RowKit Go.Words Go.Deep Go.Joins Go.Mesh
theorem trodAll_five{H:Type}{enc:TypeId×Value->H}{P:Program}{w:World}{base:Nat}{spare:Nat->Bool}{held:Bool}{t t' t'' t3 t4:TypeId}{args:Array Value}{ds:List (DataW H)}{ps:List MemPlace}(h:DataW.TrodAll enc P w base spare held [t,t',t'',t3,t4] args.toList ds ps) :
  ∃v s c u x d j a k l p n b o r,args=#[v,s,c,u,x]/\ds=[d,j,a,k,l]/\ps=p++n++b++o++r/\DataW.Trod enc P w base spare held t v d p/\DataW.Trod enc P w base spare held t' s j n/\DataW.Trod enc P w base spare held t'' c a b/\DataW.Trod enc P w base spare held t3 u k o/\DataW.Trod enc P w base spare held t4 x l r:=by
 obtain⟨v,T,d,I,p,q,D,rfl,rfl,F,m⟩:=trodAll_cons h;obtain⟨s,M,j,E,n,Q,rfl,rfl,rfl,z,f⟩:=trodAll_cons m;obtain⟨c,G,a,C,b,L,rfl,rfl,rfl,y,e⟩:=trodAll_cons f;obtain⟨u,N,k,J,o,R,rfl,rfl,rfl,A,g⟩:=trodAll_cons e;obtain⟨x,O,l,K,r,S,rfl,rfl,rfl,B,i⟩:=trodAll_cons g;obtain⟨rfl,rfl,rfl⟩:=trodAll_nil i;exact⟨v,s,c,u,x,d,j,a,k,l,p,n,b,o,r,by cases args;simp_all,rfl,by simp,F,z,y,A,B⟩
theorem glueJoins_lifted(os:Os)(started:os.Started)(H:Type)(enc:TypeId×Value->H) :
  ReturnsInHanded {} Tryz.checked os 14 .any (Rows.glueJoinsSpec.pre6 enc Tryz.prog Tryz.f14 Rows.glueJoinsRow.domain false) (Rows.glueJoinsSpec.post enc Tryz.prog Tryz.f14 false true false false):=by
 refine returnsInHanded_of_change (C:=Tryz.checked) Tryz.own started (by kernel_rfl) Tryz.func14
  (ChangeSpec.witness6 (enc:=enc) (C:=Tryz.checked) false ⟨#[],#[.agg #[.int .i64 0,.slice none 0 0,.slice none 0 0,.slice none 0 0],.agg #[.int .i64 0,.slice none 0 0,.slice none 0 0,.slice none 0 0],.int .u8 0,.int .u8 0,.int .u8 0],[]⟩ 8 (by kernel_rfl) (by kernel_rfl) (by kernel_rfl) (by kernel_rfl)) ?_
 intro W h c U gs k b A a2 _;have a:∀(j:Nat) t v,Tryz.f14.params[j]? = some t->c[j]? = some v->Value.okWide Tryz.prog W .any h t v:=b;have g:=A;obtain⟨p,q,d,hV,rfl,ai,aj⟩:=A;have i:DataW.TrodAll enc Tryz.prog W 0 (fun _=>true) true Tryz.f14.params.toList c.toList U p:=d;have l:=i;rw[Tryz.params14]at i a;obtain⟨v0,v1,v2,v3,v4,d0,d1,d2,d3,d4,D,E,p2,p3,p4,rfl,rfl,rfl,V,X,Y,Z,h4⟩:=trodAll_five i;obtain⟨rfl,rfl⟩:=trodVars_none hV;obtain⟨O,s0,q0,k0,S,Q,M,rfl,r,y,u,m⟩:=Zn5 (a 0 67 v0 rfl rfl) V;obtain⟨P,s1,q1,k1,T,R,N,rfl,s,z,w,o⟩:=Zn5 (a 1 67 v1 rfl rfl) X;obtain⟨J,rfl,rfl,rfl,F⟩:=open_int Tryz.underlying5 (a 2 5 v2 rfl rfl) Y;have ak:=bounds_u8 F;obtain⟨x2,rfl⟩:∃n:Nat,J=n:=⟨J.toNat,by omega⟩;obtain⟨K,rfl,rfl,rfl,G⟩:=open_int Tryz.underlying5 (a 3 5 v3 rfl rfl) Z;have am:=bounds_u8 G;obtain⟨x3,rfl⟩:∃n:Nat,K=n:=⟨K.toNat,by omega⟩;obtain⟨L,rfl,rfl,rfl,I⟩:=open_int Tryz.underlying5 (a 4 5 v4 rfl rfl) h4;have an:=bounds_u8 I;obtain⟨x4,rfl⟩:∃n:Nat,L=n:=⟨L.toNat,by omega⟩;clear d b;refine(gluejoins_law s0 q0 k0 O S Q M s1 q1 k1 P T R N x2 x3 x4 W zl y u m r z w o s (by omega) (by omega) (by omega)).mono fun e W' ⟨he,hb⟩=>?_
 subst he;have B:∀x∈D++E++[]++[]++[],x.block<W.heap.size:=fun x hx=>g.lt x (by simpa using hx)
 exact⟨_,rfl,Zag (pa:=D++E++[]++[]++[]) (pv:=[]) g (fun _ _ _=>trodAll_mk1 (shut_bool Tryz.underlying4 true)) (fun sp hsp=>Zaf Tryz.laidOut hb _ _ _ _ (by kernel_rfl) l B (fun x hx=>hsp x (by simpa using hx))) (fun _ _=>rfl) (by simp)
  hb (ok_one (by kernel_rfl) rfl (okWide_bool_mk Tryz.underlying4 true))⟩
theorem glueJoins_c1:Tryz.pinned.checked.prog.funcNamed Rows.glueJoinsRow.func=some 14:=by kernel_rfl
theorem glueJoins_c2a:(Rows.glueJoinsRow.inPlace == Tryz.pinned.checked.prog.inPlace 14)=true:=by kernel_rfl
theorem glueJoins_c2b:(Rows.glueJoinsRow.unfollowed == Tryz.pinned.checked.prog.unfollowed 14)=true:=by kernel_rfl
theorem glueJoins_c2c:(Rows.glueJoinsRow.recurses == Tryz.pinned.checked.prog.recurses 14)=true:=by kernel_rfl
theorem glueJoins_c2d:(Rows.glueJoinsRow.named == Tryz.pinned.checked.prog.varsNamed 14)=true:=by kernel_rfl
theorem glueJoins_c2:joinedFacts Tryz.pinned.checked.prog 14 Tryz.f14 Rows.glueJoinsSpec Rows.glueJoinsRow=true:=by
 unfold joinedFacts;rw[glueJoins_c2a,glueJoins_c2b,glueJoins_c2c,glueJoins_c2d];kernel_rfl
theorem glueJoins_c3:Tryz.f14.isInstance Tryz.pinned.checked.prog Rows.glueJoinsRow.origin Rows.glueJoinsRow.targs:=of_decide_eq_true (by kernel_rfl)
theorem glueJoins_c4:Tryz.f14.isWrapper Tryz.pinned.checked.prog Rows.glueJoinsRow.wrapper Rows.glueJoinsRow.mainSum:=by unfold Func.isWrapper;first|(rw[if_pos (by decide +kernel)];kernel_rfl)|(rw[if_neg (by decide +kernel)];exact⟨rfl,rfl⟩)
theorem glueJoins_holds:Rows.GlueJoinsSaid :=
 OpenClaim.holds_of_wide 14 Tryz.f14 rfl rfl rfl rfl rfl rfl rfl ⟨rfl,rfl,rfl,rfl,rfl⟩ rfl rfl rfl rfl rfl glueJoins_c1 Tryz.func14 glueJoins_c2 glueJoins_c3 glueJoins_c4
  (fun os started H enc _=>glueJoins_lifted os started H enc)
