/- The row of GlueCounts, proved: for every input the law returns true; each argument reads as it did. -/
import Derived.Test.YtpbdcppaiafbgaaGreatNT
import Derived.Test.YtpbdcppaiafbgaaGreatFP
import Derived.Test.YtpbdcppaiafbgaaGreatON
import Derived.ProofKit
set_option maxRecDepth 100000
set_option maxHeartbeats 8000000
namespace Go.Proofs.YtpbdcppaiafbgaaGreat
open Go.ChangeShapes Go.WideShapes Go.ChangeAt Go.RowKit Go.Words Go.Deep Go.Joins Go.Mesh
theorem glueCounts_lifted (os:Os) (started:os.Started) (H:Type) (enc:TypeId × Value->H) :
  ReturnsInHanded {} Tryz.checked os 15 .any (Rows.glueCountsSpec.pre6 enc Tryz.prog Tryz.f15 Rows.glueCountsRow.domain false) (Rows.glueCountsSpec.post enc Tryz.prog Tryz.f15 false true false false):=by
 refine returnsInHanded_of_change (C:=Tryz.checked) Tryz.own started (by kernel_rfl) Tryz.func15
  (ChangeSpec.witness6 (enc:=enc) (C:=Tryz.checked) false ⟨#[],#[.agg #[.int .i64 0,.slice none 0 0,.slice none 0 0,.slice none 0 0],.int .u8 0],[]⟩ 8 (by kernel_rfl) (by kernel_rfl) (by kernel_rfl) (by kernel_rfl)) ?_
 intro W h c G Y k b u L _;have a:∀ (j:Nat) t v,Tryz.f15.params[j]? = some t->c[j]? = some v->Value.okWide Tryz.prog W .any h t v:=b;have g:=u;obtain ⟨p,q,d,K,rfl,S,T⟩:=u;have i:DataW.TrodAll enc Tryz.prog W 0 (fun _=>true) true Tryz.f15.params.toList c.toList G p:=d;have l:=i;rw [Tryz.params15] at i a;obtain ⟨P,Q,V,X,y,Z,rfl,rfl,rfl,I,J⟩:=trodAll_two i;obtain ⟨rfl,rfl⟩:=trodVars_none K;obtain ⟨D,O,N,M,F,E,B,rfl,o,s,r,m⟩:=bodyArg (a 0 67 P rfl rfl) I;obtain ⟨A,rfl,rfl,rfl,z⟩:=open_int Tryz.underlying5 (a 1 5 Q rfl rfl) J;have U:=bounds_u8 z;obtain ⟨R,rfl⟩:∃ n:Nat,A=n:=⟨A.toNat,by omega⟩;clear d b;refine (gluecounts_law O N M D F E B R W zl s r m o (by omega)).mono fun e W' ⟨he,hb⟩=>?_
 subst he;have w:∀ x∈y++[],x.block<W.heap.size:=fun x hx=>g.lt x (by simpa using hx)
 exact ⟨_,rfl,post_of_below (pa:=y++[]) (pv:=[]) g (fun _ _ _=>trodAll_mk1 (shut_bool Tryz.underlying4 true)) (fun sp hsp=>trodAll_below Tryz.laidOut hb _ _ _ _ (by kernel_rfl) l w (fun x hx=>hsp x (by simpa using hx))) (fun _ _=>rfl) (by simp)
  hb (ok_one (by kernel_rfl) rfl (okWide_bool_mk Tryz.underlying4 true))⟩
theorem glueCounts_c1:Tryz.pinned.checked.prog.funcNamed Rows.glueCountsRow.func=some 15:=by kernel_rfl
theorem glueCounts_c2:joinedFacts Tryz.pinned.checked.prog 15 Tryz.f15 Rows.glueCountsSpec Rows.glueCountsRow=true:=by kernel_rfl
theorem glueCounts_c3:Tryz.f15.isInstance Tryz.pinned.checked.prog Rows.glueCountsRow.origin Rows.glueCountsRow.targs:=of_decide_eq_true (by kernel_rfl)
theorem glueCounts_c4:Tryz.f15.isWrapper Tryz.pinned.checked.prog Rows.glueCountsRow.wrapper Rows.glueCountsRow.mainSum:=by unfold Func.isWrapper;first | (rw [if_pos (by decide +kernel)];kernel_rfl) | (rw [if_neg (by decide +kernel)];exact ⟨rfl,rfl⟩)
theorem glueCounts_holds:Rows.GlueCountsSaid :=
 OpenClaim.holds_of_wide 15 Tryz.f15 rfl rfl rfl rfl rfl rfl rfl ⟨rfl,rfl,rfl,rfl,rfl⟩ rfl rfl rfl rfl rfl glueCounts_c1 Tryz.func15 glueCounts_c2 glueCounts_c3 glueCounts_c4
  (fun os started H enc _=>glueCounts_lifted os started H enc)
end Go.Proofs.YtpbdcppaiafbgaaGreat
