/- Walks: the document's With, Behind, At. -/
import Derived.Test.YtpmmjjbllmeneaaTJ
import Derived.Test.YtpmmjjbllmeneaaMP
namespace Go.Mesh
theorem vt_at (T : List T3) (c : Nat) : vt T (3 * (c / 3) + c % 3) = vt T c := by rw [Nat.div_add_mod]
theorem dirc_none {T : List T3} {a b : Int} (h : ∀ c, c < 3 * T.length → ¬ (vt T c = a ∧ vt T (nx c) = b)) : dirc T a b = none :=
  (leastFrom_none _ _ _).2 fun c _ hc => by
    have := h c (by omega)
    simpa using this
theorem dirc_at {T : List T3} {a b : Int} {c : Nat} (hc : c < 3 * T.length) (h1 : vt T c = a ∧ vt T (nx c) = b) (h : ∀ d, d < c → ¬ (vt T d = a ∧ vt T (nx d) = b)) : dirc T a b = some c :=
  (leastFrom_some _ _ _ _).2 ⟨by omega, by omega, by simpa using h1, fun d _ hd => by
    have := h d hd
    simpa using this⟩
theorem nx_three (i k : Nat) (hk : k < 3) : nx (3 * i + k) = 3 * i + (k + 1) % 3 := by unfold nx; omega
end Go.Mesh
namespace Go.Proofs.Ytpmmjjbllmeneaa
open Go Go.RowKit Go.Words Go.Mesh

theorem tri_cells {w : World} {B cap : Nat} {A : Option Addr} {T : List T3} (h : Sl 3 RTri w B (.slice A T.length cap) T) {i : Nat} (hi : i < T.length) :
    ∃ b o, A = some ⟨b, o, none⟩ ∧ b < B ∧ ∀ k, k < 3 → w.cell? ⟨b, o + i * 3 + k, none⟩ = some (.int .i64 (Mesh.vt T (3 * i + k))) := by
  obtain ⟨b, o, h1, h2, h3⟩ := tri_cell h (n := 3 * i) (by omega)
  refine ⟨b, o, h1, h2, fun k hk => ?_⟩
  obtain ⟨b', o', g1, _, g3⟩ := tri_cell h (n := 3 * i + k) (by omega)
  rw [h1] at g1
  injection g1 with g1
  injection g1 with g1 g2
  subst g1; subst g2
  rw [show (3 * i + k) / 3 = i by omega, show (3 * i + k) % 3 = k by omega] at g3
  exact g3
set_option maxRecDepth 20000 in
set_option maxHeartbeats 1000000 in
theorem with_calls {w : World} {B : Nat} {sv : Value} {N : Int} {T : List T3} (hT : Sl 3 RTri w B sv T) (hB0 : B ≤ w.heap.size) (hfew : T.length ≤ 8192) (x y : Int) :
    Calls Try.prog 39 #[.agg #[.int .i64 N, sv], .int .i64 x, .int .i64 y] w fun e w' => e = .returned (.int .i64 (oi ((dirc T x y).map (· / 3)))) ∧ Below w.heap.size w w' := by
  obtain ⟨A, cap, rfl, hcap⟩ := hT.form
  have hbox := Bk.new w 24 [.int .i64 N, .slice A T.length cap]
  have hb1 := (Below.refl w.heap.size w).alloc (Nat.le_refl _) (.cells #[.int .i64 N, .slice A T.length cap] 24)
  have hTA := hT.below keeps_tri (hb1.mono hB0)
  generalize hw0 : w.alloc (.cells #[.int .i64 N, .slice A T.length cap] 24) = w0 at *
  have c0 := hbox.cell 0
  have c1 := hbox.cell 1
  simp only [List.getElem?_cons_zero, List.getElem?_cons_succ] at c0 c1
  have HhT := Lib.hid hT; clear hT; have HhTA := Lib.hid hTA; clear hTA; have Hhbox := Lib.hid hbox; clear hbox
  go_enter Try.func39, Try.ntmps39
  go_wp2_with fail
  clear hw0
  go_loopw [7] (fun i wr => ∃ k : Nat, k ≤ T.length ∧ i = .int .i64 k ∧ wr = w0 ∧ ∀ c, c < 3 * k → ¬ (Mesh.vt T c = x ∧ Mesh.vt T (nx c) = y)) (fun i _ => T.length - (intOf i).toNat)
  case atStart => exact ⟨0, by omega, rfl, rfl, fun c hc => by omega⟩
  case round =>
    obtain ⟨k, hk, rfl, hw9, hno⟩ := hrel
    have hw9 := hw9.symm
    subst hw9
    have Hhno := Lib.hid hno; clear hno
    by_cases hlt : k < T.length
    · obtain ⟨b, o, rfl, hb, hcell⟩ := tri_cells HhTA.out hlt
      have hbw : b < w0.heap.size := by have := hb1.size; omega
      have Hhcell := Lib.hid hcell; clear hcell
      go_wp2_with fail
      go_loopw [8] (fun j wr => ∃ m : Nat, m ≤ 3 ∧ j = .int .i64 m ∧ wr = w0 ∧ ∀ c, c < 3 * k + m → ¬ (Mesh.vt T c = x ∧ Mesh.vt T (nx c) = y)) (fun j _ => 3 - (intOf j).toNat)
      case atStart => exact ⟨0, by omega, rfl, rfl, fun c hc => Hhno.out c (by omega)⟩
      case round =>
        obtain ⟨m, hm, rfl, hw9, hno2⟩ := hrel
        have hw9 := hw9.symm
        subst hw9
        by_cases hm3 : m < 3
        · have hc2 := Hhcell.out m hm3
          have hc3 := Hhcell.out ((m + 1) % 3) (by omega)
          rw [← nx_three k m hm3] at hc3
          have hstep : ¬ (Mesh.vt T (3 * k + m) = x ∧ Mesh.vt T (nx (3 * k + m)) = y) → ∀ c, c < 3 * k + (m + 1) → ¬ (Mesh.vt T c = x ∧ Mesh.vt T (nx c) = y) := by
            intro h8 c hc
            by_cases h7 : c = 3 * k + m
            · rw [h7]; exact h8
            · exact hno2 c (by omega)
          have hat : Mesh.vt T (3 * k + m) = x ∧ Mesh.vt T (nx (3 * k + m)) = y → oi ((dirc T x y).map (· / 3)) = (k : Int) := by
            intro h8
            rw [dirc_at (by omega) h8 hno2]
            show (((3 * k + m) / 3 : Nat) : Int) = k
            omega
          generalize Mesh.vt T (3 * k + m) = p at *
          generalize Mesh.vt T (nx (3 * k + m)) = q at *
          have Hhno2 := Lib.hid hno2; clear hno2; have Hhstep := Lib.hid hstep; clear hstep; have Hhat := Lib.hid hat; clear hat
          by_cases hp : p = x
          · by_cases hq : q = y
            · go_wp2_with fail
              go_ret
              exact ⟨ret_int (Hhat.out ⟨hp, hq⟩).symm, hb1⟩
            · go_wp2_with fail
              exact ⟨⟨m + 1, by omega, by simp, trivial, Hhstep.out fun h9 => hq h9.2⟩, by simp [intOf]; omega⟩
          · go_wp2_with fail
            exact ⟨⟨m + 1, by omega, by simp, trivial, Hhstep.out fun h9 => hp h9.1⟩, by simp [intOf]; omega⟩
        · have hm4 : m = 3 := by omega
          subst hm4
          have Hhno2 := Lib.hid hno2; clear hno2
          go_wp2_with fail
          exact ⟨⟨k + 1, by omega, by simp, trivial, fun c hc => Hhno2.out c (by omega)⟩, by simp [intOf]; omega⟩
    · have hkl : k = T.length := by omega
      subst hkl
      have hd : oi ((dirc T x y).map (· / 3)) = -1 := by rw [dirc_none Hhno.out]; rfl
      have Hhd := Lib.hid hd; clear hd
      go_wp2_with fail
      go_ret
      exact ⟨ret_int Hhd.out.symm, hb1⟩

end Go.Proofs.Ytpmmjjbllmeneaa
