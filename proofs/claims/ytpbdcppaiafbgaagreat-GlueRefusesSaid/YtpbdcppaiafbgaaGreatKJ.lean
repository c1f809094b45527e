/- The row of GlueRefuses, proved: for every input the law returns true; each argument reads as it did. -/
import Derived.Test.YtpbdcppaiafbgaaGreatOS
import Derived.Test.YtpbdcppaiafbgaaGreatFP
import Derived.Test.YtpbdcppaiafbgaaGreatON
import Derived.Carry
import Derived.ProofKit
set_option maxRecDepth 100000
set_option maxHeartbeats 8000000
namespace Go.Proofs.YtpbdcppaiafbgaaGreat
open Go.ChangeShapes Go.WideShapes Go.ChangeAt Go.RowKit Go.Words Go.Deep Go.Joins Go.Mesh
theorem glueRefuses_lifted (os:Os) (started:os.Started) (H:Type) (enc:TypeId × Value->H) :
  ReturnsInHanded {} Tryz.checked os 11 .any (Rows.glueRefusesSpec.pre6 enc Tryz.prog Tryz.f11 Rows.glueRefusesRow.domain false) (Rows.glueRefusesSpec.post enc Tryz.prog Tryz.f11 false true false false):=by
 refine returnsInHanded_of_change (C:=Tryz.checked) Tryz.own started (by kernel_rfl) Tryz.func11
  (ChangeSpec.witness6 (enc:=enc) (C:=Tryz.checked) false ⟨#[],#[.agg #[.int .i64 0,.slice none 0 0,.slice none 0 0,.slice none 0 0],.int .i64 0,.int .i64 0,.int .i64 0],[]⟩ 8 (by kernel_rfl) (by kernel_rfl) (by kernel_rfl) (by kernel_rfl)) ?_
 intro W h c G gs k b s N _
 have a:∀ (j:Nat) t v,Tryz.f11.params[j]? = some t->c[j]? = some v->Value.okWide Tryz.prog W .any h t v:=b
 have g:=s
 obtain ⟨p,q,d,M,rfl,Z,a0⟩:=s
 have i:DataW.TrodAll enc Tryz.prog W 0 (fun _=>true) true Tryz.f11.params.toList c.toList G p:=d
 have l:=i
 rw [Tryz.params11] at i a
 obtain ⟨R,S,T,U,d0,d1,d2,d3,w,p1,p2,p3,rfl,rfl,rfl,I,J,K,L⟩:=trodAll_four i
 obtain ⟨rfl,rfl⟩:=trodVars_none M
 obtain ⟨D,Q,P,O,F,E,B,rfl,n,r,o,m⟩:=bodyArg (a 0 67 R rfl rfl) I
 obtain ⟨V,rfl,rfl,rfl,y⟩:=open_int Tryz.underlying3 (a 1 3 S rfl rfl) J
 obtain ⟨X,rfl,rfl,rfl,z⟩:=open_int Tryz.underlying3 (a 2 3 T rfl rfl) K
 obtain ⟨Y,rfl,rfl,rfl,A⟩:=open_int Tryz.underlying3 (a 3 3 U rfl rfl) L
 clear d b
 refine (gluerefuses_law Q P O D F E B V X Y W (Nat.le_refl _) r o m n (bounds_i64 y) (bounds_i64 z) (bounds_i64 A)).mono fun e W' ⟨he,hb⟩=>?_
 subst he
 have u:∀ x∈w++[]++[]++[],x.block<W.heap.size:=fun x hx=>g.lt x (by simpa using hx)
 exact ⟨_,rfl,post_of_below (pa:=w++[]++[]++[]) (pv:=[]) g (fun _ _ _=>trodAll_mk1 (shut_bool Tryz.underlying4 true)) (fun sp hsp=>trodAll_below Tryz.laidOut hb _ _ _ _ (by kernel_rfl) l u (fun x hx=>hsp x (by simpa using hx))) (fun _ _=>rfl) (by simp)
  hb (ok_one (by kernel_rfl) rfl (okWide_bool_mk Tryz.underlying4 true))⟩
theorem glueRefuses_c1:Tryz.pinned.checked.prog.funcNamed Rows.glueRefusesRow.func=some 11:=by kernel_rfl
theorem glueRefuses_c2:joinedFacts Tryz.pinned.checked.prog 11 Tryz.f11 Rows.glueRefusesSpec Rows.glueRefusesRow=true:=by kernel_rfl
theorem glueRefuses_c3:Tryz.f11.isInstance Tryz.pinned.checked.prog Rows.glueRefusesRow.origin Rows.glueRefusesRow.targs:=of_decide_eq_true (by kernel_rfl)
theorem glueRefuses_c4:Tryz.f11.isWrapper Tryz.pinned.checked.prog Rows.glueRefusesRow.wrapper Rows.glueRefusesRow.mainSum:=by unfold Func.isWrapper;first | (rw [if_pos (by decide +kernel)];kernel_rfl) | (rw [if_neg (by decide +kernel)];exact ⟨rfl,rfl⟩)
theorem glueRefuses_holds:Rows.GlueRefusesSaid :=
 OpenClaim.holds_of_wide 11 Tryz.f11 rfl rfl rfl rfl rfl rfl rfl ⟨rfl,rfl,rfl,rfl,rfl⟩ rfl rfl rfl rfl rfl glueRefuses_c1 Tryz.func11 glueRefuses_c2 glueRefuses_c3 glueRefuses_c4
  (fun os started H enc _=>glueRefuses_lifted os started H enc)
end Go.Proofs.YtpbdcppaiafbgaaGreat
