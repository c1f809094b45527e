/- The law BorderNone, walked. -/
import Derived.Test.YtckkpmjkajkkmaaBM
import Derived.Test.YtckkpmjkajkkmaaTU
namespace Go.Proofs.Ytckkpmjkajkkmaa
open Go Go.RowKit Go.Words Go.Mesh

set_option maxRecDepth 20000 in
set_option maxHeartbeats 1000000 in
theorem none_law (v : Int) (w : World) (hv9 : I64 v) : Calls Try.prog 10 #[.int .i64 v] w fun e w' => e = .returned (.bool true) ∧ Below w.heap.size w w' := by
  have haw := awake12_calls w
  have hnil : ∀ wz : World, TabN wz 0 (.pointer none) 0 [] := fun wz => .inr ⟨rfl, rfl, rfl, Nat.zero_le _⟩
  have hed := fun wz => bedges_calls (hnil wz) surf_nil
  have hlo := fun wz => bloops_calls (hnil wz) surf_nil
  have haf := fun wz => bafter_calls (hnil wz) surf_nil v
  have hwa := fun wz => walk12_calls (hnil wz) surf_nil v hv9
  rw [show afI [] v = -1 from rfl] at haf
  rw [show loopAt [] 0 v = [] from rfl, List.take_nil] at hwa
  rw [bedges_nil] at hed
  rw [show lps [] 0 (0 : Int).toNat = [] from rfl] at hlo
  have Hhaw := Lib.hid haw; have Hhed := Lib.hid hed; have Hhlo := Lib.hid hlo; have Hhaf := Lib.hid haf; have Hhwa := Lib.hid hwa; have Hhnil := Lib.hid hnil; clear haw hed hlo haf hwa hnil
  go_enter Try.func10, Try.ntmps10
  go_wp2_with fail
  refine Hhaw.out.mono ?_
  rintro e w1 ⟨rfl, hb1⟩
  go_wp2_with fail
  refine (Hhed.out _).mono ?_
  rintro e w2 ⟨⟨r, rfl, hown⟩, hb2⟩
  have hB2 := hb1.trans (hb2.mono hb1.size)
  obtain ⟨A, cap, rfl, hcap⟩ := own_form hown
  have Hhown := Lib.hid hown; clear hown
  go_wp2_with fail
  refine (Hhlo.out _).mono ?_
  rintro e w3 ⟨⟨r3, rfl, vs, h1, h2, h3⟩, hb3⟩
  have hB3 := hB2.trans (hb3.mono hB2.size)
  obtain ⟨A3, cap3, rfl, hcap3⟩ := own_form h2
  have Hh2 := Lib.hid h2; have Hh3 := Lib.hid h3; clear h2 h3
  go_wp2_with fail
  refine (Hhaf.out _).mono ?_
  rintro e w4 ⟨rfl, hb4⟩
  have hB4 := hB3.trans (hb4.mono hB3.size)
  go_wp2_with fail
  refine (Hhwa.out _).mono ?_
  rintro e w5 ⟨⟨r5, rfl, hown5⟩, hb5⟩
  have hB5 := hB4.trans (hb5.mono hB4.size)
  obtain ⟨A5, cap5, rfl, hcap5⟩ := own_form hown5
  have Hhown5 := Lib.hid hown5; clear hown5
  go_wp2_with fail
  go_ret
  exact ⟨rfl, hB5⟩
end Go.Proofs.Ytckkpmjkajkkmaa
