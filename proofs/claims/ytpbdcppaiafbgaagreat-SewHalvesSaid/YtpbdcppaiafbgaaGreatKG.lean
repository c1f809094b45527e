/- The row of SewHalves, proved: for every input the law returns true; each argument reads as it did. -/
import Derived.Test.YtpbdcppaiafbgaaGreatJG
import Derived.Test.YtpbdcppaiafbgaaGreatFP
import Derived.ProofKit
namespace Go.Proofs.YtpbdcppaiafbgaaGreat
open Go.ChangeShapes Go.WideShapes Go.ChangeAt Go.RowKit Go.Words Go.Deep Go.Joins Go.Mesh

set_option maxRecDepth 100000 in
theorem sewHalves_lifted (os : Os) (started : os.Started) (H : Type) (enc : TypeId × Value → H) :
    ReturnsInHanded {} Tryz.checked os 18 .any (Rows.sewHalvesSpec.pre6 enc Tryz.prog Tryz.f18 Rows.sewHalvesRow.domain false) (Rows.sewHalvesSpec.post enc Tryz.prog Tryz.f18 false true false false) := by
  refine returnsInHanded_of_change (C := Tryz.checked) Tryz.own started (by kernel_rfl) Tryz.func18
    (ChangeSpec.witness6 (enc := enc) (C := Tryz.checked) false ⟨#[], #[.agg #[.int .i64 0, .slice none 0 0], .slice none 0 0, .int .u8 0], []⟩ 8 (by kernel_rfl) (by kernel_rfl) (by kernel_rfl) (by kernel_rfl)) ?_
  intro W base args ds gs before hval0 hW hcnd _
  have hval : ∀ (j : Nat) t v, Tryz.f18.params[j]? = some t → args[j]? = some v → Value.okWide Tryz.prog W .any base t v := hval0
  have hW' := hW
  obtain ⟨p, q, hA0, hV, rfl, hfz, hnd⟩ := hW
  have hA : DataW.TrodAll enc Tryz.prog W 0 (fun _ => true) true Tryz.f18.params.toList args.toList ds p := hA0
  have hAk := hA
  rw [Tryz.params18] at hA hval
  obtain ⟨v0, v1, v2, d0, d1, d2, p0, p1, p2, rfl, rfl, rfl, h0, h1, h2⟩ := trodAll_three hA
  obtain ⟨rfl, rfl⟩ := trodVars_none hV
  obtain ⟨N0, s0, T0, rfl, hN0, hT0⟩ := soupArg (hval 0 24 v0 rfl rfl) h0
  obtain ⟨x1, hx1⟩ := edgesArg (hval 1 25 v1 rfl rfl) h1
  obtain ⟨y2, rfl, rfl, rfl, wy2⟩ := open_int Tryz.underlying5 (hval 2 5 v2 rfl rfl) h2
  have hy2 := bounds_u8 wy2
  obtain ⟨x2, rfl⟩ : ∃ n : Nat, y2 = n := ⟨y2.toNat, by omega⟩
  clear hA0 hval0
  refine (sewhalves_law s0 N0 T0 v1 x1 x2 W (Nat.le_refl _) hT0 hN0 hx1 (by omega)).mono fun e W' ⟨he, hb⟩ => ?_
  subst he
  have hlt : ∀ x ∈ p0 ++ p1 ++ [], x.block < W.heap.size := fun x hx => hW'.lt x (by simpa using hx)
  exact ⟨_, rfl, post_of_below (pa := p0 ++ p1 ++ []) (pv := []) hW' (fun _ _ _ => trodAll_mk1 (shut_bool Tryz.underlying4 true)) (fun sp hsp => trodAll_below Tryz.laidOut hb _ _ _ _ (by kernel_rfl) hAk hlt (fun x hx => hsp x (by simpa using hx))) (fun _ _ => rfl) (by simp)
    hb (ok_one (by kernel_rfl) rfl (okWide_bool_mk Tryz.underlying4 true))⟩

theorem sewHalves_c1 : Tryz.pinned.checked.prog.funcNamed Rows.sewHalvesRow.func = some 18 := by kernel_rfl
theorem sewHalves_c2 : joinedFacts Tryz.pinned.checked.prog 18 Tryz.f18 Rows.sewHalvesSpec Rows.sewHalvesRow = true := by kernel_rfl
theorem sewHalves_c3 : Tryz.f18.isInstance Tryz.pinned.checked.prog Rows.sewHalvesRow.origin Rows.sewHalvesRow.targs := of_decide_eq_true (by kernel_rfl)
theorem sewHalves_c4 : Tryz.f18.isWrapper Tryz.pinned.checked.prog Rows.sewHalvesRow.wrapper Rows.sewHalvesRow.mainSum := by unfold Func.isWrapper; first | (rw [if_pos (by decide +kernel)]; kernel_rfl) | (rw [if_neg (by decide +kernel)]; exact ⟨rfl, rfl⟩)
theorem sewHalves_holds : Rows.SewHalvesSaid :=
  OpenClaim.holds_of_wide 18 Tryz.f18 rfl rfl rfl rfl rfl rfl rfl ⟨rfl, rfl, rfl, rfl, rfl⟩ rfl rfl rfl rfl rfl sewHalves_c1 Tryz.func18 sewHalves_c2 sewHalves_c3 sewHalves_c4
    (fun os started H enc _ => sewHalves_lifted os started H enc)

end Go.Proofs.YtpbdcppaiafbgaaGreat
