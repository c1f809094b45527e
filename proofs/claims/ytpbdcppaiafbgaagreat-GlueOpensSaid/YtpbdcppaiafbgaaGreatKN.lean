/- The row of GlueOpens, proved: for every input the law returns true; each argument reads as it did. -/
import Derived.Test.YtpbdcppaiafbgaaGreatNU
import Derived.Test.YtpbdcppaiafbgaaGreatFP
import Derived.Test.YtpbdcppaiafbgaaGreatON
import Derived.ProofKit
set_option maxRecDepth 100000
set_option maxHeartbeats 8000000
namespace Go.Proofs.YtpbdcppaiafbgaaGreat
open Go.ChangeShapes Go.WideShapes Go.ChangeAt Go.RowKit Go.Words Go.Deep Go.Joins Go.Mesh
theorem glueOpens_lifted (os:Os) (started:os.Started) (H:Type) (enc:TypeId × Value->H) :
  ReturnsInHanded {} Tryz.checked os 10 .any (Rows.glueOpensSpec.pre6 enc Tryz.prog Tryz.f10 Rows.glueOpensRow.domain false) (Rows.glueOpensSpec.post enc Tryz.prog Tryz.f10 false true false false):=by
 refine returnsInHanded_of_change (C:=Tryz.checked) Tryz.own started (by kernel_rfl) Tryz.func10
  (ChangeSpec.witness6 (enc:=enc) (C:=Tryz.checked) false ⟨#[],#[.agg #[.int .i64 0,.slice none 0 0,.slice none 0 0,.slice none 0 0],.slice none 0 0],[]⟩ 8 (by kernel_rfl) (by kernel_rfl) (by kernel_rfl) (by kernel_rfl)) ?_
 intro W h c G V k b s L _
 have a:∀ (j:Nat) t v,Tryz.f10.params[j]? = some t->c[j]? = some v->Value.okWide Tryz.prog W .any h t v:=b
 have g:=s
 obtain ⟨p,q,d,K,rfl,R,S⟩:=s
 have i:DataW.TrodAll enc Tryz.prog W 0 (fun _=>true) true Tryz.f10.params.toList c.toList G p:=d
 have l:=i
 rw [Tryz.params10] at i a
 obtain ⟨P,A,T,U,y,z,rfl,rfl,rfl,I,J⟩:=trodAll_two i
 obtain ⟨rfl,rfl⟩:=trodVars_none K
 obtain ⟨D,O,N,M,F,E,B,rfl,n,r,o,m⟩:=bodyArg (a 0 67 P rfl rfl) I
 obtain ⟨Q,w⟩:=intsWArg (a 1 28 A rfl rfl) J
 clear d b
 refine (glueopens_law O N M D F E B A Q W zl r o m n w).mono fun e W' ⟨he,hb⟩=>?_
 subst he
 have u:∀ x∈y++z,x.block<W.heap.size:=fun x hx=>g.lt x (by simpa using hx)
 exact ⟨_,rfl,post_of_below (pa:=y++z) (pv:=[]) g (fun _ _ _=>trodAll_mk1 (shut_bool Tryz.underlying4 true)) (fun sp hsp=>trodAll_below Tryz.laidOut hb _ _ _ _ (by kernel_rfl) l u (fun x hx=>hsp x (by simpa using hx))) (fun _ _=>rfl) (by simp)
  hb (ok_one (by kernel_rfl) rfl (okWide_bool_mk Tryz.underlying4 true))⟩
theorem glueOpens_c1:Tryz.pinned.checked.prog.funcNamed Rows.glueOpensRow.func=some 10:=by kernel_rfl
theorem glueOpens_c2:joinedFacts Tryz.pinned.checked.prog 10 Tryz.f10 Rows.glueOpensSpec Rows.glueOpensRow=true:=by kernel_rfl
theorem glueOpens_c3:Tryz.f10.isInstance Tryz.pinned.checked.prog Rows.glueOpensRow.origin Rows.glueOpensRow.targs:=of_decide_eq_true (by kernel_rfl)
theorem glueOpens_c4:Tryz.f10.isWrapper Tryz.pinned.checked.prog Rows.glueOpensRow.wrapper Rows.glueOpensRow.mainSum:=by unfold Func.isWrapper;first | (rw [if_pos (by decide +kernel)];kernel_rfl) | (rw [if_neg (by decide +kernel)];exact ⟨rfl,rfl⟩)
theorem glueOpens_holds:Rows.GlueOpensSaid :=
 OpenClaim.holds_of_wide 10 Tryz.f10 rfl rfl rfl rfl rfl rfl rfl ⟨rfl,rfl,rfl,rfl,rfl⟩ rfl rfl rfl rfl rfl glueOpens_c1 Tryz.func10 glueOpens_c2 glueOpens_c3 glueOpens_c4
  (fun os started H enc _=>glueOpens_lifted os started H enc)
end Go.Proofs.YtpbdcppaiafbgaaGreat
