/- The row of SewLoops, proved: for every input the law returns true; each argument reads as it did. -/
import Derived.Test.YtpbdcppaiafbgaaFQ
import Derived.Test.YtpbdcppaiafbgaaFP
import Derived.ProofKit
namespace Go.Proofs.Ytpbdcppaiafbgaa
open Go.ChangeShapes Go.WideShapes Go.ChangeAt Go.RowKit Go.Words Go.Deep Go.Joins Go.Mesh

set_option maxRecDepth 100000 in
theorem sewLoops_lifted (os : Os) (started : os.Started) (H : Type) (enc : TypeId × Value → H) :
    ReturnsInHanded {} Try.checked os 3 .any (Rows.sewLoopsSpec.pre6 enc Try.prog Try.f3 Rows.sewLoopsRow.domain false) (Rows.sewLoopsSpec.post enc Try.prog Try.f3 false true false false) := by
  refine returnsInHanded_of_change (C := Try.checked) Try.own started (by kernel_rfl) Try.func3
    (ChangeSpec.witness6 (enc := enc) (C := Try.checked) false ⟨#[], #[.agg #[.int .i64 0, .slice none 0 0], .int .u8 0], []⟩ 8 (by kernel_rfl) (by kernel_rfl) (by kernel_rfl) (by kernel_rfl)) ?_
  intro W base args ds gs before hval0 hW hcnd _
  have hval : ∀ (j : Nat) t v, Try.f3.params[j]? = some t → args[j]? = some v → Value.okWide Try.prog W .any base t v := hval0
  have hW' := hW
  obtain ⟨p, q, hA0, hV, rfl, hfz, hnd⟩ := hW
  have hA : DataW.TrodAll enc Try.prog W 0 (fun _ => true) true Try.f3.params.toList args.toList ds p := hA0
  have hAk := hA
  rw [Try.params3] at hA hval
  obtain ⟨v0, v1, d0, d1, p0, p1, rfl, rfl, rfl, h0, h1⟩ := trodAll_two hA
  obtain ⟨rfl, rfl⟩ := trodVars_none hV
  obtain ⟨N0, s0, T0, rfl, hN0, hT0⟩ := soupArg (hval 0 24 v0 rfl rfl) h0
  obtain ⟨y1, rfl, rfl, rfl, wy1⟩ := open_int Try.underlying5 (hval 1 5 v1 rfl rfl) h1
  have hy1 := bounds_u8 wy1
  obtain ⟨x1, rfl⟩ : ∃ n : Nat, y1 = n := ⟨y1.toNat, by omega⟩
  clear hA0 hval0
  refine (sewloops_law s0 N0 T0 x1 W (Nat.le_refl _) hT0 hN0 (by omega)).mono fun e W' ⟨he, hb⟩ => ?_
  subst he
  have hlt : ∀ x ∈ p0 ++ [], x.block < W.heap.size := fun x hx => hW'.lt x (by simpa using hx)
  exact ⟨_, rfl, post_of_below (pa := p0 ++ []) (pv := []) hW' (fun _ _ _ => trodAll_mk1 (shut_bool Try.underlying4 true)) (fun sp hsp => trodAll_below Try.laidOut hb _ _ _ _ (by kernel_rfl) hAk hlt (fun x hx => hsp x (by simpa using hx))) (fun _ _ => rfl) (by simp)
    hb (ok_one (by kernel_rfl) rfl (okWide_bool_mk Try.underlying4 true))⟩

theorem sewLoops_c1 : Try.pinned.checked.prog.funcNamed Rows.sewLoopsRow.func = some 3 := by kernel_rfl
theorem sewLoops_c2 : joinedFacts Try.pinned.checked.prog 3 Try.f3 Rows.sewLoopsSpec Rows.sewLoopsRow = true := by kernel_rfl
theorem sewLoops_c3 : Try.f3.isInstance Try.pinned.checked.prog Rows.sewLoopsRow.origin Rows.sewLoopsRow.targs := of_decide_eq_true (by kernel_rfl)
theorem sewLoops_c4 : Try.f3.isWrapper Try.pinned.checked.prog Rows.sewLoopsRow.wrapper Rows.sewLoopsRow.mainSum := by unfold Func.isWrapper; first | (rw [if_pos (by decide +kernel)]; kernel_rfl) | (rw [if_neg (by decide +kernel)]; exact ⟨rfl, rfl⟩)
theorem sewLoops_holds : Rows.SewLoopsSaid :=
  OpenClaim.holds_of_wide 3 Try.f3 rfl rfl rfl rfl rfl rfl rfl ⟨rfl, rfl, rfl, rfl, rfl⟩ rfl rfl rfl rfl rfl sewLoops_c1 Try.func3 sewLoops_c2 sewLoops_c3 sewLoops_c4
    (fun os started H enc _ => sewLoops_lifted os started H enc)

end Go.Proofs.Ytpbdcppaiafbgaa
