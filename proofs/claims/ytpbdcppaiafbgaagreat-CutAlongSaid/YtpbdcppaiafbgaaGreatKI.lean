/- The row of CutAlong, proved: for every input the law returns true; each argument reads as it did. -/
import Derived.Test.YtpbdcppaiafbgaaGreatJL
import Derived.Test.YtpbdcppaiafbgaaGreatFP
import Derived.ProofKit
namespace Go.Proofs.YtpbdcppaiafbgaaGreat
open Go.ChangeShapes Go.WideShapes Go.ChangeAt Go.RowKit Go.Words Go.Deep Go.Joins Go.Mesh

set_option maxRecDepth 100000 in
theorem cutAlong_lifted (os : Os) (started : os.Started) (H : Type) (enc : TypeId × Value → H) :
    ReturnsInHanded {} Tryz.checked os 3 .any (Rows.cutAlongSpec.pre6 enc Tryz.prog Tryz.f3 Rows.cutAlongRow.domain false) (Rows.cutAlongSpec.post enc Tryz.prog Tryz.f3 false true false false) := by
  refine returnsInHanded_of_change (C := Tryz.checked) Tryz.own started (by kernel_rfl) Tryz.func3
    (ChangeSpec.witness6 (enc := enc) (C := Tryz.checked) false ⟨#[], #[.agg #[.int .i64 0, .slice none 0 0], .slice none 0 0], []⟩ 8 (by kernel_rfl) (by kernel_rfl) (by kernel_rfl) (by kernel_rfl)) ?_
  intro W base args ds gs before hval0 hW hcnd _
  have hval : ∀ (j : Nat) t v, Tryz.f3.params[j]? = some t → args[j]? = some v → Value.okWide Tryz.prog W .any base t v := hval0
  have hW' := hW
  obtain ⟨p, q, hA0, hV, rfl, hfz, hnd⟩ := hW
  have hA : DataW.TrodAll enc Tryz.prog W 0 (fun _ => true) true Tryz.f3.params.toList args.toList ds p := hA0
  have hAk := hA
  rw [Tryz.params3] at hA hval
  obtain ⟨v0, v1, d0, d1, p0, p1, rfl, rfl, rfl, h0, h1⟩ := trodAll_two hA
  obtain ⟨rfl, rfl⟩ := trodVars_none hV
  obtain ⟨N0, s0, T0, rfl, hN0, hT0⟩ := soupArg (hval 0 24 v0 rfl rfl) h0
  obtain ⟨x1, hx1⟩ := edgesArg (hval 1 25 v1 rfl rfl) h1
  clear hA0 hval0
  refine (cutalong_law s0 N0 T0 v1 x1 W (Nat.le_refl _) hT0 hN0 hx1).mono fun e W' ⟨he, hb⟩ => ?_
  subst he
  have hlt : ∀ x ∈ p0 ++ p1, x.block < W.heap.size := fun x hx => hW'.lt x (by simpa using hx)
  exact ⟨_, rfl, post_of_below (pa := p0 ++ p1) (pv := []) hW' (fun _ _ _ => trodAll_mk1 (shut_bool Tryz.underlying4 true)) (fun sp hsp => trodAll_below Tryz.laidOut hb _ _ _ _ (by kernel_rfl) hAk hlt (fun x hx => hsp x (by simpa using hx))) (fun _ _ => rfl) (by simp)
    hb (ok_one (by kernel_rfl) rfl (okWide_bool_mk Tryz.underlying4 true))⟩

theorem cutAlong_c1 : Tryz.pinned.checked.prog.funcNamed Rows.cutAlongRow.func = some 3 := by kernel_rfl
theorem cutAlong_c2 : joinedFacts Tryz.pinned.checked.prog 3 Tryz.f3 Rows.cutAlongSpec Rows.cutAlongRow = true := by kernel_rfl
theorem cutAlong_c3 : Tryz.f3.isInstance Tryz.pinned.checked.prog Rows.cutAlongRow.origin Rows.cutAlongRow.targs := of_decide_eq_true (by kernel_rfl)
theorem cutAlong_c4 : Tryz.f3.isWrapper Tryz.pinned.checked.prog Rows.cutAlongRow.wrapper Rows.cutAlongRow.mainSum := by unfold Func.isWrapper; first | (rw [if_pos (by decide +kernel)]; kernel_rfl) | (rw [if_neg (by decide +kernel)]; exact ⟨rfl, rfl⟩)
theorem cutAlong_holds : Rows.CutAlongSaid :=
  OpenClaim.holds_of_wide 3 Tryz.f3 rfl rfl rfl rfl rfl rfl rfl ⟨rfl, rfl, rfl, rfl, rfl⟩ rfl rfl rfl rfl rfl cutAlong_c1 Tryz.func3 cutAlong_c2 cutAlong_c3 cutAlong_c4
    (fun os started H enc _ => cutAlong_lifted os started H enc)

end Go.Proofs.YtpbdcppaiafbgaaGreat
