/- The row of CutStar, proved: for every input the law returns true; each argument reads as it did. -/
import Derived.Test.YtpbdcppaiafbgaaGreatJH
import Derived.Test.YtpbdcppaiafbgaaGreatFP
import Derived.ProofKit
namespace Go.Proofs.YtpbdcppaiafbgaaGreat
open Go.ChangeShapes Go.WideShapes Go.ChangeAt Go.RowKit Go.Words Go.Deep Go.Joins Go.Mesh

set_option maxRecDepth 100000 in
theorem cutStar_lifted (os : Os) (started : os.Started) (H : Type) (enc : TypeId × Value → H) :
    ReturnsInHanded {} Tryz.checked os 9 .any (Rows.cutStarSpec.pre6 enc Tryz.prog Tryz.f9 Rows.cutStarRow.domain false) (Rows.cutStarSpec.post enc Tryz.prog Tryz.f9 false true false false) := by
  refine returnsInHanded_of_change (C := Tryz.checked) Tryz.own started (by kernel_rfl) Tryz.func9
    (ChangeSpec.witness6 (enc := enc) (C := Tryz.checked) false ⟨#[], #[.agg #[.int .i64 0, .slice none 0 0], .int .i64 0], []⟩ 8 (by kernel_rfl) (by kernel_rfl) (by kernel_rfl) (by kernel_rfl)) ?_
  intro W base args ds gs before hval0 hW hcnd _
  have hval : ∀ (j : Nat) t v, Tryz.f9.params[j]? = some t → args[j]? = some v → Value.okWide Tryz.prog W .any base t v := hval0
  have hW' := hW
  obtain ⟨p, q, hA0, hV, rfl, hfz, hnd⟩ := hW
  have hA : DataW.TrodAll enc Tryz.prog W 0 (fun _ => true) true Tryz.f9.params.toList args.toList ds p := hA0
  have hAk := hA
  rw [Tryz.params9] at hA hval
  obtain ⟨v0, v1, d0, d1, p0, p1, rfl, rfl, rfl, h0, h1⟩ := trodAll_two hA
  obtain ⟨rfl, rfl⟩ := trodVars_none hV
  obtain ⟨N0, s0, T0, rfl, hN0, hT0⟩ := soupArg (hval 0 24 v0 rfl rfl) h0
  obtain ⟨x1, rfl, rfl, rfl, wx1⟩ := open_int Tryz.underlying3 (hval 1 3 v1 rfl rfl) h1
  clear hA0 hval0
  refine (cutstar_law s0 N0 T0 x1 W (Nat.le_refl _) hT0 hN0).mono fun e W' ⟨he, hb⟩ => ?_
  subst he
  have hlt : ∀ x ∈ p0 ++ [], x.block < W.heap.size := fun x hx => hW'.lt x (by simpa using hx)
  exact ⟨_, rfl, post_of_below (pa := p0 ++ []) (pv := []) hW' (fun _ _ _ => trodAll_mk1 (shut_bool Tryz.underlying4 true)) (fun sp hsp => trodAll_below Tryz.laidOut hb _ _ _ _ (by kernel_rfl) hAk hlt (fun x hx => hsp x (by simpa using hx))) (fun _ _ => rfl) (by simp)
    hb (ok_one (by kernel_rfl) rfl (okWide_bool_mk Tryz.underlying4 true))⟩

theorem cutStar_c1 : Tryz.pinned.checked.prog.funcNamed Rows.cutStarRow.func = some 9 := by kernel_rfl
theorem cutStar_c2 : joinedFacts Tryz.pinned.checked.prog 9 Tryz.f9 Rows.cutStarSpec Rows.cutStarRow = true := by kernel_rfl
theorem cutStar_c3 : Tryz.f9.isInstance Tryz.pinned.checked.prog Rows.cutStarRow.origin Rows.cutStarRow.targs := of_decide_eq_true (by kernel_rfl)
theorem cutStar_c4 : Tryz.f9.isWrapper Tryz.pinned.checked.prog Rows.cutStarRow.wrapper Rows.cutStarRow.mainSum := by unfold Func.isWrapper; first | (rw [if_pos (by decide +kernel)]; kernel_rfl) | (rw [if_neg (by decide +kernel)]; exact ⟨rfl, rfl⟩)
theorem cutStar_holds : Rows.CutStarSaid :=
  OpenClaim.holds_of_wide 9 Tryz.f9 rfl rfl rfl rfl rfl rfl rfl ⟨rfl, rfl, rfl, rfl, rfl⟩ rfl rfl rfl rfl rfl cutStar_c1 Tryz.func9 cutStar_c2 cutStar_c3 cutStar_c4
    (fun os started H enc _ => cutStar_lifted os started H enc)

end Go.Proofs.YtpbdcppaiafbgaaGreat
