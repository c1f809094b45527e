/- The row of CutOrder, proved: for every input the law returns true; each argument reads as it did. -/
import Derived.Test.YtpbdcppaiafbgaaGreatJF
import Derived.Test.YtpbdcppaiafbgaaGreatFP
import Derived.ProofKit
namespace Go.Proofs.YtpbdcppaiafbgaaGreat
open Go.ChangeShapes Go.WideShapes Go.ChangeAt Go.RowKit Go.Words Go.Deep Go.Joins Go.Mesh

set_option maxRecDepth 100000 in
theorem cutOrder_lifted (os : Os) (started : os.Started) (H : Type) (enc : TypeId × Value → H) :
    ReturnsInHanded {} Tryz.checked os 4 .any (Rows.cutOrderSpec.pre6 enc Tryz.prog Tryz.f4 Rows.cutOrderRow.domain false) (Rows.cutOrderSpec.post enc Tryz.prog Tryz.f4 false true false false) := by
  refine returnsInHanded_of_change (C := Tryz.checked) Tryz.own started (by kernel_rfl) Tryz.func4
    (ChangeSpec.witness6 (enc := enc) (C := Tryz.checked) false ⟨#[], #[.agg #[.int .i64 0, .slice none 0 0], .slice none 0 0, .slice none 0 0], []⟩ 8 (by kernel_rfl) (by kernel_rfl) (by kernel_rfl) (by kernel_rfl)) ?_
  intro W base args ds gs before hval0 hW hcnd _
  have hval : ∀ (j : Nat) t v, Tryz.f4.params[j]? = some t → args[j]? = some v → Value.okWide Tryz.prog W .any base t v := hval0
  have hW' := hW
  obtain ⟨p, q, hA0, hV, rfl, hfz, hnd⟩ := hW
  have hA : DataW.TrodAll enc Tryz.prog W 0 (fun _ => true) true Tryz.f4.params.toList args.toList ds p := hA0
  have hAk := hA
  rw [Tryz.params4] at hA hval
  obtain ⟨v0, v1, v2, d0, d1, d2, p0, p1, p2, rfl, rfl, rfl, h0, h1, h2⟩ := trodAll_three hA
  obtain ⟨rfl, rfl⟩ := trodVars_none hV
  obtain ⟨N0, s0, T0, rfl, hN0, hT0⟩ := soupArg (hval 0 24 v0 rfl rfl) h0
  obtain ⟨x1, hx1⟩ := edgesArg (hval 1 25 v1 rfl rfl) h1
  obtain ⟨x2, hx2⟩ := u8sArg (hval 2 44 v2 rfl rfl) h2
  clear hA0 hval0
  refine (cutorder_law s0 N0 T0 v1 x1 v2 x2 W (Nat.le_refl _) hT0 hN0 hx1 hx2).mono fun e W' ⟨he, hb⟩ => ?_
  subst he
  have hlt : ∀ x ∈ p0 ++ p1 ++ p2, x.block < W.heap.size := fun x hx => hW'.lt x (by simpa using hx)
  exact ⟨_, rfl, post_of_below (pa := p0 ++ p1 ++ p2) (pv := []) hW' (fun _ _ _ => trodAll_mk1 (shut_bool Tryz.underlying4 true)) (fun sp hsp => trodAll_below Tryz.laidOut hb _ _ _ _ (by kernel_rfl) hAk hlt (fun x hx => hsp x (by simpa using hx))) (fun _ _ => rfl) (by simp)
    hb (ok_one (by kernel_rfl) rfl (okWide_bool_mk Tryz.underlying4 true))⟩

theorem cutOrder_c1 : Tryz.pinned.checked.prog.funcNamed Rows.cutOrderRow.func = some 4 := by kernel_rfl
theorem cutOrder_c2 : joinedFacts Tryz.pinned.checked.prog 4 Tryz.f4 Rows.cutOrderSpec Rows.cutOrderRow = true := by kernel_rfl
theorem cutOrder_c3 : Tryz.f4.isInstance Tryz.pinned.checked.prog Rows.cutOrderRow.origin Rows.cutOrderRow.targs := of_decide_eq_true (by kernel_rfl)
theorem cutOrder_c4 : Tryz.f4.isWrapper Tryz.pinned.checked.prog Rows.cutOrderRow.wrapper Rows.cutOrderRow.mainSum := by unfold Func.isWrapper; first | (rw [if_pos (by decide +kernel)]; kernel_rfl) | (rw [if_neg (by decide +kernel)]; exact ⟨rfl, rfl⟩)
theorem cutOrder_holds : Rows.CutOrderSaid :=
  OpenClaim.holds_of_wide 4 Tryz.f4 rfl rfl rfl rfl rfl rfl rfl ⟨rfl, rfl, rfl, rfl, rfl⟩ rfl rfl rfl rfl rfl cutOrder_c1 Tryz.func4 cutOrder_c2 cutOrder_c3 cutOrder_c4
    (fun os started H enc _ => cutOrder_lifted os started H enc)

end Go.Proofs.YtpbdcppaiafbgaaGreat
