/- Walks: ring.first. -/
import Derived.Test.YtckkpmjkajkkmaaGreatME
import Derived.Test.YtckkpmjkajkkmaaGreatMP
namespace Go.Proofs.YtckkpmjkajkkmaaGreat
open Go Go.RowKit Go.Words Go.Mesh

set_option maxRecDepth 20000 in
theorem first_calls {w : World} {B : Nat} {tv : Value} {N : Int} {T : List T3} (h : Tab w B tv N T) (hs : Surf N T) (v : Int) (hv : 0 ≤ v ∧ v < N) :
    Calls Tryz.prog 29 #[tv, .int .i64 v] w fun e w' => (∃ b, cornerOf T v = some b ∧ e = .returned (.tuple #[.int .i64 ((begins T b).1 : Int), .bool (begins T b).2])) ∧ RowKit.Below w.heap.size w w' := by
  have hle := h.le
  have hc := corner_calls h hs v
  obtain ⟨c, hc0, hcv⟩ := hs.used v hv.1 hv.2
  obtain ⟨b, hb⟩ := leastFrom_isSome (p := fun d => Mesh.vt T d == v) (n := 3 * T.length) (k := 0) (c := c) (by omega) (by omega) (by simp [hcv])
  have hb : cornerOf T v = some b := hb
  have hr : tCorn T N v = (b : Int) := by unfold tCorn; rw [if_pos hv, hb]; rfl
  rw [hr] at hc
  have hblt : b < 3 * T.length := by
    obtain ⟨_, h2, _⟩ := (leastFrom_some _ _ _ _).1 hb
    omega
  have hrun := hs.back hblt
  generalize hl : runF (bef T) b (3 * T.length) b = l at *
  have hfew : T.length ≤ 8192 := hs.tmax
  have Hh := Lib.hid h; clear h; have Hhs := Lib.hid hs; clear hs; have Hhc := Lib.hid hc; clear hc; have Hhb := Lib.hid hb; clear hb; have Hhrun := Lib.hid hrun; clear hrun
  go_enter Tryz.func29, Tryz.ntmps29
  go_wp2_with fail
  refine Hhc.out.mono ?_
  rintro e w1 ⟨rfl, rfl⟩
  go_wp2_with fail
  go_loopw [7] (fun x wr => ∃ (i : Nat) (hi : i < l.length), x = .int .i64 (l[i] : Int) ∧ Below w1.heap.size w1 wr) (fun x _ => l.length - l.idxOf (intOf x).toNat)
  case atStart => exact ⟨0, Hhrun.out.ne, by rw [Hhrun.out.head], Below.refl _ _⟩
  case round =>
    obtain ⟨i, hi, rfl, hbel⟩ := hrel
    have hrun := Hhrun.out
    have hx := hrun.lt _ (List.getElem_mem hi)
    have hcal := before_calls (Hh.out.below hbel hle) Hhs.out l[i] hx
    have hlast : i + 1 < l.length ∨ i + 1 = l.length := by omega
    have hgl : i + 1 = l.length → l.getLastD b = l[i] := by
      intro h9
      rw [List.getLastD_eq_getLast?, List.getLast?_eq_getElem?, show l.length - 1 = i from by omega, List.getElem?_eq_getElem hi]
      rfl
    have hbeg : begins T b = if bef T (l.getLastD b) = none then (l.getLastD b, true) else (b, false) := by unfold begins; rw [hl]
    have hidx : ∀ j (hj : j < l.length), l.idxOf l[j] = j := fun j hj => hrun.nodup.idxOf_getElem j hj
    have hm1 := hidx i hi
    cases hbf : bef T l[i] with
    | none =>
      rw [hbf] at hcal
      have hend : i + 1 = l.length := by
        rcases hlast with h9 | h9
        · have := hrun.steps i h9
          rw [hbf] at this; cases this
        · exact h9
      have hbe : begins T b = (l[i], true) := by rw [hbeg, hgl hend, hbf]; rfl
      generalize l[i] = y at *
      change Calls _ _ _ _ fun e w' => e = .returned (.int .i64 (-1)) ∧ _ at hcal
      have Hhcal := Lib.hid hcal; clear hcal; have Hhrun := Lib.hid hrun; clear hrun; have Hhgl := Lib.hid hgl; clear hgl; have Hhbeg := Lib.hid hbeg; clear hbeg; have Hhidx := Lib.hid hidx; clear hidx; have Hhbe := Lib.hid hbe; clear hbe; have Hhm1 := Lib.hid hm1; clear hm1; have Hhbf := Lib.hid hbf; clear hbf
      go_wp2_with fail
      refine Hhcal.out.mono ?_
      rintro e w2 ⟨rfl, hb2⟩
      have hb3 := below_call hbel hb2 hbel.size
      go_wp2
      exact bodyPost_ret (results_tmp2 rfl _ _ _) rfl ⟨⟨b, Hhb.out, by rw [Hhbe.out]; rfl⟩, hb3⟩
    | some d =>
      rw [hbf] at hcal
      by_cases hdb : d = b
      · subst hdb
        have hend : i + 1 = l.length := by
          rcases hlast with h9 | h9
          · have h8 := hrun.steps i h9
            rw [hbf] at h8
            have h7 : l[i + 1] = l[0]'(hrun.ne) := by rw [hrun.head]; exact (Option.some.inj h8).symm
            have := (List.getElem_inj hrun.nodup).1 h7
            omega
          · exact h9
        have hbe : begins T d = (d, false) := by rw [hbeg, hgl hend, hbf]; rfl
        generalize l[i] = y at *
        change Calls _ _ _ _ fun e w' => e = .returned (.int .i64 (d : Int)) ∧ _ at hcal
        have Hhcal := Lib.hid hcal; clear hcal; have Hhrun := Lib.hid hrun; clear hrun; have Hhgl := Lib.hid hgl; clear hgl; have Hhbeg := Lib.hid hbeg; clear hbeg; have Hhidx := Lib.hid hidx; clear hidx; have Hhbe := Lib.hid hbe; clear hbe; have Hhm1 := Lib.hid hm1; clear hm1; have Hhbf := Lib.hid hbf; clear hbf
        go_wp2_with fail
        refine Hhcal.out.mono ?_
        rintro e w2 ⟨rfl, hb2⟩
        have hb3 := below_call hbel hb2 hbel.size
        go_wp2
        exact bodyPost_ret (results_tmp2 rfl _ _ _) rfl ⟨⟨d, Hhb.out, by rw [Hhbe.out]; rfl⟩, hb3⟩
      · have hnext : ∃ h9 : i + 1 < l.length, d = l[i + 1] := by
          rcases hlast with h9 | h9
          · refine ⟨h9, ?_⟩
            have h8 := hrun.steps i h9
            rw [hbf] at h8
            exact Option.some.inj h8
          · exfalso
            have h8 := hrun.last
            have h7 : l[l.length - 1]'(by omega) = l[i] := by congr 1; omega
            rw [h7, hbf] at h8
            rcases h8 with h8 | h8
            · cases h8
            · exact hdb (Option.some.inj h8)
        obtain ⟨h9, hd⟩ := hnext
        have hm2 := hidx (i + 1) h9
        have hdb' : (d : Int) ≠ (b : Int) := by omega
        have hmeas : l.length - (i + 1) < l.length - i := by omega
        generalize l[i] = y at *
        change Calls _ _ _ _ fun e w' => e = .returned (.int .i64 (d : Int)) ∧ _ at hcal
        have Hhcal := Lib.hid hcal; clear hcal; have Hhrun := Lib.hid hrun; clear hrun; have Hhgl := Lib.hid hgl; clear hgl; have Hhbeg := Lib.hid hbeg; clear hbeg; have Hhidx := Lib.hid hidx; clear hidx; have Hhm1 := Lib.hid hm1; clear hm1; have Hhm2 := Lib.hid hm2; clear hm2; have Hhbf := Lib.hid hbf; clear hbf
        go_wp2_with fail
        refine Hhcal.out.mono ?_
        rintro e w2 ⟨rfl, hb2⟩
        have hb3 := below_call hbel hb2 hbel.size
        go_wp2
        exact ⟨⟨i + 1, h9, rfl, hb3⟩, by simpa [Hhm1.out, Hhm2.out, intOf] using hmeas⟩
end Go.Proofs.YtckkpmjkajkkmaaGreat
