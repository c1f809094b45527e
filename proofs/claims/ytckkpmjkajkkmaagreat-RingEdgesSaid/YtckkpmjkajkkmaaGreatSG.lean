/- Walks: soup.Edges of a surface. -/
import Derived.Test.YtckkpmjkajkkmaaGreatSE
namespace Go.Mesh
/-- The edge at a corner, the lesser vertex first. -/
def ek (T : List T3) (c : Nat) : Int × Int := (min (vt T c) (vt T (nx c)), max (vt T c) (vt T (nx c)))
/-- A list of just the edges. -/
def EdgesIs (T : List T3) (L : List (Int × Int)) : Prop := L.Pairwise ltE ∧ ∀ e, e ∈ L ↔ ∃ c, c < 3 * T.length ∧ e = ek T c
theorem sorted_strict {L : List (Int × Int)} (h : L.Pairwise (fun x y => ¬ ltE y x)) (hn : L.Nodup) : L.Pairwise ltE := by
  refine List.Pairwise.imp₂ (fun {a b} h1 h2 => ?_) h hn
  unfold ltE at *
  have : a.1 ≠ b.1 ∨ a.2 ≠ b.2 := by
    rcases Decidable.em (a.1 = b.1) with h3 | h3
    · refine .inr fun h4 => h2 (Prod.ext h3 h4)
    · exact .inl h3
  omega
end Go.Mesh
namespace Go.Proofs.YtckkpmjkajkkmaaGreat
open Go Go.RowKit Go.Words Go.Mesh Go.Maps

set_option maxRecDepth 40000 in
set_option maxHeartbeats 2000000 in
theorem edges_calls {w : World} {B : Nat} {sv : Value} {N : Int} {T : List T3} (hT : Sl 3 RTri w B sv T) (hB0 : B ≤ w.heap.size) (hs : Surf N T) :
    Calls Tryz.prog 6 #[.agg #[.int .i64 N, sv]] w fun e w' => (∃ (r : Value) (L : List (Int × Int)), e = .returned r ∧ EdgesIs T L ∧ w'.ownsRow w.heap.size 34 2 r L.length (flat2 L)) ∧ Below w.heap.size w w' := by
  obtain ⟨A, cap, rfl, hcap⟩ := hT.form
  have hfew := hs.tmax
  have hnm := hs.nmax
  have hbox := Bk.new w 24 [.int .i64 N, .slice A T.length cap]
  have hb1 := (Below.refl w.heap.size w).alloc (Nat.le_refl _) (.cells #[.int .i64 N, .slice A T.length cap] 24)
  have c0 := hbox.cell 0
  have c1 := hbox.cell 1
  simp only [List.getElem?_cons_zero, List.getElem?_cons_succ] at c0 c1
  have hbl := hbox.lt
  have hTA := hT.below keeps_tri (hb1.mono hB0)
  generalize hw0 : w.alloc (.cells #[.int .i64 N, .slice A T.length cap] 24) = w0 at *
  have hfi := fits_calls hTA (by omega) hs
  have hmm := @run_makeMap Tryz.prog
  have HhT := Lib.hid hT; clear hT; have Hhbox := Lib.hid hbox; clear hbox; have HhTA := Lib.hid hTA; clear hTA; have Hhfi := Lib.hid hfi; clear hfi
  go_enter Tryz.func6, Tryz.ntmps6
  go_wp2_with fail
  refine Hhfi.out.mono ?_
  rintro e w1 ⟨rfl, hb2⟩
  have hz1 := hb2.size
  have hb3 := hb1.trans (hb2.mono hb1.size)
  have hT1 := HhTA.out.below keeps_tri (hb2.mono (by omega))
  have d1 : w1.cell? ⟨w.heap.size, 1, none⟩ = some (.slice A T.length cap) := (hb2.cell (p := ⟨w.heap.size, 1, none⟩) hbl).trans c1
  have hnew : MpE (w1.alloc (.map #[] 0)) w1.heap.size [] := Mp.new w1
  have hb4 := hb3.alloc hb3.size (.map #[] 0)
  have hb5 := (Below.refl w1.heap.size w1).alloc (Nat.le_refl _) (.map #[] 0)
  have d2 : (w1.alloc (.map #[] 0)).cell? ⟨w.heap.size, 1, none⟩ = some (.slice A T.length cap) := (hb5.cell (p := ⟨w.heap.size, 1, none⟩) (by show w.heap.size < _; omega)).trans d1
  have hzm : w1.heap.size < (w1.alloc (.map #[] 0)).heap.size := by simp
  have hT2 := hT1.below keeps_tri (hb5.mono (by omega))
  generalize hw2 : w1.alloc (.map #[] 0) = w2 at *
  obtain ⟨mb, hmb⟩ : ∃ mb, mb = w1.heap.size := ⟨_, rfl⟩
  rw [← hmb] at hnew hb5 hzm
  have hme := hmb.symm
  clear c0 c1 d1
  have HhT1 := Lib.hid hT1; clear hT1; have HhT2 := Lib.hid hT2; clear hT2; have Hhnew := Lib.hid hnew; clear hnew; have Hhmb := Lib.hid hmb; clear hmb; have Hhme := Lib.hid hme; clear hme
  go_wp2_with fail
  clear hmm hw0 hw2
  rw [Hhme.out]
  have hm1 : w1.heap.size ≤ mb := by rw [Hhmb.out]; exact Nat.le_refl _
  have hkey0 : ∀ e, e ∈ ([] : List ((Int × Int) × Unit)).map (·.1) ↔ ∃ c, c < 3 * 0 + 0 ∧ e = ek T c := fun e => ⟨fun h => (List.not_mem_nil h).elim, fun ⟨c, h, _⟩ => by omega⟩
  have Hhkey0 := Lib.hid hkey0; clear hkey0
  go_loopw [16] (fun iv wr => ∃ (t : Nat) (lm : List ((Int × Int) × Unit)), t ≤ T.length ∧ iv = .int .i64 (t : Int) ∧ MpE wr mb lm ∧ (∀ e, e ∈ lm.map (·.1) ↔ ∃ c, c < 3 * t + 0 ∧ e = ek T c) ∧ lm.length ≤ 3 * t + 0 ∧ Below mb w1 wr) (fun iv _ => T.length - (intOf iv).toNat)
  case atStart => exact ⟨0, [], by omega, rfl, Hhnew.out, Hhkey0.out, by simp, hb5⟩
  case round =>
    obtain ⟨t, lm, ht, rfl, hmp, hkey, hlen, hbel⟩ := hrel
    obtain ⟨w3, hw3⟩ : ∃ w3, w3 = wr := ⟨_, rfl⟩
    subst hw3
    have hmlt := hmp.lt
    by_cases htl : t < T.length
    · obtain ⟨b, o, rfl, hb, hcell⟩ := tri_cells (HhT1.out.below keeps_tri (hbel.mono (by omega))) htl
      have k0 := hcell 0 (by omega)
      have k1 := hcell 1 (by omega)
      have k2 := hcell 2 (by omega)
      simp only [Nat.add_zero] at k0
      clear hcell
      have htt : (t : Int) < (T.length : Int) := by omega
      have hvt : ∀ k, k < 3 → Mesh.vt T (3 * t + k) = ([Mesh.vt T (3 * t), Mesh.vt T (3 * t + 1), Mesh.vt T (3 * t + 2)].getD k 0) := fun k hk => by
        have : k = 0 ∨ k = 1 ∨ k = 2 := by omega
        rcases this with rfl | rfl | rfl <;> rfl
      have hrng : ∀ k, k < 3 → 0 ≤ Mesh.vt T (3 * t + k) ∧ Mesh.vt T (3 * t + k) < 4096 := fun k hk => by have := hs.rng (3 * t + k) (by omega); omega
      have hq := Bk.new w3 41 [.int .i64 (Mesh.vt T (3 * t)), .int .i64 (Mesh.vt T (3 * t + 1)), .int .i64 (Mesh.vt T (3 * t + 2))]
      have hmp2 : MpE (w3.alloc (.cells #[.int .i64 (Mesh.vt T (3 * t)), .int .i64 (Mesh.vt T (3 * t + 1)), .int .i64 (Mesh.vt T (3 * t + 2))] 41)) mb lm := hmp.alloc _
      have hbel2 := hbel.alloc (by omega) (.cells #[.int .i64 (Mesh.vt T (3 * t)), .int .i64 (Mesh.vt T (3 * t + 1)), .int .i64 (Mesh.vt T (3 * t + 2))] 41)
      have Hhmp := Lib.hid hmp; clear hmp; have Hhkey := Lib.hid hkey; clear hkey; have Hhvt := Lib.hid hvt; clear hvt; have Hhrng := Lib.hid hrng; clear hrng; have Hhq := Lib.hid hq; clear hq; have Hhmp2 := Lib.hid hmp2; clear hmp2; have Hhbel2 := Lib.hid hbel2; clear hbel2
      go_wp2_with fail
      have hq := Hhq.out
      have hmp2 := Hhmp2.out
      have hbel2 := Hhbel2.out
      clear Hhq Hhmp2 Hhbel2 k0 k1 k2
      generalize w3.alloc (.cells #[.int .i64 (Mesh.vt T (3 * t)), .int .i64 (Mesh.vt T (3 * t + 1)), .int .i64 (Mesh.vt T (3 * t + 2))] 41) = w4 at *
      have hqm : mb ≠ w3.heap.size := by omega
      generalize w3.heap.size = q at *
      have Hhq := Lib.hid hq; clear hq; have Hhmp2 := Lib.hid hmp2; clear hmp2; have Hhbel2 := Lib.hid hbel2; clear hbel2
      go_loopw [20] (fun kv wr => ∃ (k : Nat) (lm : List ((Int × Int) × Unit)), k ≤ 3 ∧ kv = .int .i64 (k : Int) ∧ MpE wr mb lm ∧ (∀ e, e ∈ lm.map (·.1) ↔ ∃ c, c < 3 * t + k ∧ e = ek T c) ∧ lm.length ≤ 3 * t + k ∧ Bk wr q 41 [.int .i64 (Mesh.vt T (3 * t)), .int .i64 (Mesh.vt T (3 * t + 1)), .int .i64 (Mesh.vt T (3 * t + 2))] ∧ Below mb w1 wr) (fun kv _ => 3 - (intOf kv).toNat)
      case atStart => exact ⟨0, lm, by omega, rfl, Hhmp2.out, Hhkey.out, hlen, Hhq.out, Hhbel2.out⟩
      case round =>
        clear Hhmp2 Hhkey hlen Hhq Hhbel2 Hhmp hmlt
        obtain ⟨k, lm, hk, rfl, hmp, hkey, hlen, hq, hbel⟩ := hrel
        obtain ⟨w5, hw5⟩ : ∃ w5, w5 = wr := ⟨_, rfl⟩
        subst hw5
        by_cases hk3 : k < 3
        · have hki : (k : Int) < 3 := by omega
          obtain ⟨k9, hk9, hk9b⟩ : ∃ k9 : Nat, ((k : Int) + 1) % 3 = (k9 : Int) ∧ (k + 1) % 3 = k9 := ⟨(k + 1) % 3, by omega, rfl⟩
          have hk93 : k9 < 3 := by omega
          have ca : w5.cell? ⟨q, k, none⟩ = some (.int .i64 (Mesh.vt T (3 * t + k))) := by
            rw [hq.cell k, Hhvt.out k hk3]
            have : k = 0 ∨ k = 1 ∨ k = 2 := by omega
            rcases this with rfl | rfl | rfl <;> rfl
          have cb : w5.cell? ⟨q, k9, none⟩ = some (.int .i64 (Mesh.vt T (3 * t + k9))) := by
            rw [hq.cell k9, Hhvt.out k9 hk93]
            have : k9 = 0 ∨ k9 = 1 ∨ k9 = 2 := by omega
            rcases this with rfl | rfl | rfl <;> rfl
          have hek : ek T (3 * t + k) = (min (Mesh.vt T (3 * t + k)) (Mesh.vt T (3 * t + k9)), max (Mesh.vt T (3 * t + k)) (Mesh.vt T (3 * t + k9))) := by
            unfold ek
            rw [show nx (3 * t + k) = 3 * t + k9 by unfold nx; omega]
          have ra := Hhrng.out k hk3
          have rb := Hhrng.out k9 hk93
          generalize Mesh.vt T (3 * t + k) = x at *
          generalize Mesh.vt T (3 * t + k9) = y at *
          obtain ⟨xa, xb⟩ := ra
          obtain ⟨ya, yb⟩ := rb
          have hokk : ok2 (min x y, max x y) := ⟨by unfold I64; omega, by unfold I64; omega⟩
          have hkey2 : ∀ e, e ∈ (put lm (min x y, max x y) ()).map (·.1) ↔ ∃ c, c < 3 * t + (k + 1) ∧ e = ek T c := fun e => by
            rw [keys_put, hkey e, ← hek]
            constructor
            · rintro (h | ⟨c, h1, h2⟩)
              · exact ⟨3 * t + k, by omega, h⟩
              · exact ⟨c, by omega, h2⟩
            · rintro ⟨c, h1, h2⟩
              by_cases hck : c = 3 * t + k
              · exact .inl (by rw [h2, hck])
              · exact .inr ⟨c, by omega, h2⟩
          have hlen2 : (put lm (min x y, max x y) ()).length ≤ 3 * t + (k + 1) := by have := length_put_le lm (min x y, max x y) (); omega
          have hmpd := hmp.drew
          have Hhmp := Lib.hid hmp; clear hmp; have Hhkey := Lib.hid hkey; clear hkey; have Hhek := Lib.hid hek; clear hek; have Hhokk := Lib.hid hokk; clear hokk; have Hhkey2 := Lib.hid hkey2; clear hkey2; have Hhlen2 := Lib.hid hlen2; clear hlen2; have Hhmpd := Lib.hid hmpd; clear hmpd; have Hhq := Lib.hid hq; clear hq; have Hhk9b := Lib.hid hk9b; clear hk9b
          go_wp2_with fail
          refine Go.Canon.wp_region_text mixed (by kernel_rfl) ?_
          go_wp2_with fail
          refine Go.Canon.chk (by rfl) ?_
          go_wp2_with (at_mapUpdate; refine wpList_put _ rfl _ _ _ 45 rfl 34 4 keyE Tryz.underlying45 mb lm rfl Hhmpd.out (min x y, max x y) rfl Hhokk.out () rfl ?_; intro w6 hmp6 hgr6 hsz6; have Hhmp6 := Lib.hid hmp6; clear hmp6; have Hhgr6 := Lib.hid hgr6; clear hgr6; clear hsz6)
          have hq6 := (Hhq.out.drew).grown Hhgr6.out (by intro e; injection e with e; omega)
          have hbel6 := (hbel.drew).grown Hhgr6.out (by have := Hhmp.out.lt; show mb ≤ w5.heap.size; omega) (fun r hr => by cases hr; exact Nat.le_refl _)
          exact ⟨⟨k + 1, _, by omega, by simp, Hhmp6.out, Hhkey2.out, Hhlen2.out, hq6, hbel6⟩, by simp [intOf]; omega⟩
        · obtain rfl : k = 3 := by omega
          have hkey3 : ∀ e, e ∈ lm.map (·.1) ↔ ∃ c, c < 3 * (t + 1) + 0 ∧ e = ek T c := fun e => by rw [hkey e, show 3 * (t + 1) + 0 = 3 * t + 3 by omega]
          have Hhmp := Lib.hid hmp; clear hmp; have Hhkey := Lib.hid hkey; clear hkey; have Hhkey3 := Lib.hid hkey3; clear hkey3; have Hhq := Lib.hid hq; clear hq
          go_wp2_with fail
          exact ⟨⟨t + 1, lm, by omega, by simp, Hhmp.out, Hhkey3.out, by omega, hbel⟩, by simp [intOf]; omega⟩
    · obtain rfl : t = T.length := by omega
      have hke := keysE_calls (some mb) w3
      have hb6 : Below mb w1 (w3.alloc (.cells #[.map (some mb)] 45)) := hbel.alloc (by omega) _
      have hmp6 : MpE (w3.alloc (.cells #[.map (some mb)] 45)) mb lm := hmp.alloc _
      have hso := sortedE_calls (w := w3.alloc (.cells #[.map (some mb)] 45)) (Bm := w3.heap.size) (b := mb) (by simp) (Boxed.new w3 _ _).cell hmp6 (by omega)
      have hsz : (w3.alloc (.cells #[.map (some mb)] 45)).heap.size = w3.heap.size + 1 := by simp
      have hkn := hmp.nodup
      have Hhmp := Lib.hid hmp; clear hmp; have Hhkey := Lib.hid hkey; clear hkey; have Hhke := Lib.hid hke; clear hke; have Hhmp6 := Lib.hid hmp6; clear hmp6; have Hhso := Lib.hid hso; clear hso; have Hhkn := Lib.hid hkn; clear hkn
      go_wp2_with fail
      refine Hhke.out.mono ?_
      rintro e w4 ⟨rfl, rfl⟩
      go_wp2_with fail
      refine Hhso.out.mono ?_
      rintro e w5 ⟨⟨r, L, rfl, hp, hso2, hown⟩, hb7⟩
      have hb8 : Below w.heap.size w w5 := (hb3.trans (hb6.mono (by omega))).trans (hb7.mono (by omega))
      have hL : EdgesIs T L := ⟨sorted_strict hso2 (hp.nodup_iff.2 Hhkn.out), fun e => by rw [hp.mem_iff, Hhkey.out e]; exact ⟨fun ⟨c, h1, h2⟩ => ⟨c, by omega, h2⟩, fun ⟨c, h1, h2⟩ => ⟨c, by omega, h2⟩⟩⟩
      have hown2 := own_base hown (by omega : w.heap.size ≤ _)
      have Hhp := Lib.hid hp; clear hp; have Hhso2 := Lib.hid hso2; clear hso2; have Hhown := Lib.hid hown; clear hown; have HhL := Lib.hid hL; clear hL; have Hhown2 := Lib.hid hown2; clear hown2
      go_wp2_with fail
      go_ret
      exact ⟨⟨_, L, rfl, HhL.out, Hhown2.out⟩, hb8⟩
end Go.Proofs.YtckkpmjkajkkmaaGreat
