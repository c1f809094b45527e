/- Walks: the document's With, Behind, At. Walks: the document's Around. Walks: the document's Ints; the law's table. Whether given triangles are a surface can be reckoned: plain. Walks: the law's table and its example. -/
import Derived.Test.YtpbdcppaiafbgaaGreatTI
import Derived.Test.YtpbdcppaiafbgaaGreatMP
import Derived.Deep.CutBlock
import Derived.Deep.DeepCutAuto
namespace Go.Mesh
theorem vt_at (T : List T3) (c : Nat) : vt T (3 * (c / 3) + c % 3) = vt T c := by rw [Nat.div_add_mod]
theorem dirc_none {T : List T3} {a b : Int} (h : ∀ c, c < 3 * T.length → ¬ (vt T c = a ∧ vt T (nx c) = b)) : dirc T a b = none :=
  (leastFrom_none _ _ _).2 fun c _ hc => by
    have := h c (by omega)
    simpa using this
theorem dirc_at {T : List T3} {a b : Int} {c : Nat} (hc : c < 3 * T.length) (h1 : vt T c = a ∧ vt T (nx c) = b) (h : ∀ d, d < c → ¬ (vt T d = a ∧ vt T (nx d) = b)) : dirc T a b = some c :=
  (leastFrom_some _ _ _ _).2 ⟨by omega, by omega, by simpa using h1, fun d _ hd => by
    have := h d hd
    simpa using this⟩
theorem nx_three (i k : Nat) (hk : k < 3) : nx (3 * i + k) = 3 * i + (k + 1) % 3 := by unfold nx; omega
end Go.Mesh
namespace Go.Proofs.YtpbdcppaiafbgaaGreat
open Go Go.RowKit Go.Words Go.Mesh

theorem tri_cells {w : World} {B cap : Nat} {A : Option Addr} {T : List T3} (h : Sl 3 RTri w B (.slice A T.length cap) T) {i : Nat} (hi : i < T.length) :
    ∃ b o, A = some ⟨b, o, none⟩ ∧ b < B ∧ ∀ k, k < 3 → w.cell? ⟨b, o + i * 3 + k, none⟩ = some (.int .i64 (Mesh.vt T (3 * i + k))) := by
  obtain ⟨b, o, h1, h2, h3⟩ := tri_cell h (n := 3 * i) (by omega)
  refine ⟨b, o, h1, h2, fun k hk => ?_⟩
  obtain ⟨b', o', g1, _, g3⟩ := tri_cell h (n := 3 * i + k) (by omega)
  rw [h1] at g1
  injection g1 with g1
  injection g1 with g1 g2
  subst g1; subst g2
  rw [show (3 * i + k) / 3 = i by omega, show (3 * i + k) % 3 = k by omega] at g3
  exact g3
set_option maxRecDepth 20000 in
theorem behind_calls {w : World} {B : Nat} {sv : Value} {N : Int} {T : List T3} (hT : Sl 3 RTri w B sv T) (hB0 : B ≤ w.heap.size) (hfew : T.length ≤ 8192) (c many : Nat) (hc : c < 3 * T.length) (hm : many = 1 ∨ many = 2) :
    Calls Tryz.prog 117 #[.agg #[.int .i64 N, sv], .int .i64 (c : Int), .int .i64 (many : Int)] w fun e w' => e = .returned (.int .i64 (Mesh.vt T (3 * (c / 3) + (c + many) % 3))) ∧ Below w.heap.size w w' := by
  obtain ⟨A, cap, rfl, hcap⟩ := hT.form
  obtain ⟨b, o, rfl, hb, hcell⟩ := tri_cells hT (i := c / 3) (by omega)
  have hcc := hcell ((c + many) % 3) (by omega)
  have hbox := Bk.new w 24 [.int .i64 N, .slice (some ⟨b, o, none⟩) T.length cap]
  have hb1 := (Below.refl w.heap.size w).alloc (Nat.le_refl _) (.cells #[.int .i64 N, .slice (some ⟨b, o, none⟩) T.length cap] 24)
  have hbw : b < w.heap.size := by omega
  generalize Mesh.vt T (3 * (c / 3) + (c + many) % 3) = x at *
  have HhT := Lib.hid hT; clear hT; have Hhcell := Lib.hid hcell; clear hcell; have Hhbox := Lib.hid hbox; clear hbox
  go_enter Tryz.func117, Tryz.ntmps117
  go_wp2
  go_ret
  exact ⟨rfl, hb1⟩

set_option maxRecDepth 20000 in
set_option maxHeartbeats 1000000 in
theorem with_calls {w : World} {B : Nat} {sv : Value} {N : Int} {T : List T3} (hT : Sl 3 RTri w B sv T) (hB0 : B ≤ w.heap.size) (hfew : T.length ≤ 8192) (x y : Int) :
    Calls Tryz.prog 73 #[.agg #[.int .i64 N, sv], .int .i64 x, .int .i64 y] w fun e w' => e = .returned (.int .i64 (oi ((dirc T x y).map (· / 3)))) ∧ Below w.heap.size w w' := by
  obtain ⟨A, cap, rfl, hcap⟩ := hT.form
  have hbox := Bk.new w 24 [.int .i64 N, .slice A T.length cap]
  have hb1 := (Below.refl w.heap.size w).alloc (Nat.le_refl _) (.cells #[.int .i64 N, .slice A T.length cap] 24)
  have hTA := hT.below keeps_tri (hb1.mono hB0)
  generalize hw0 : w.alloc (.cells #[.int .i64 N, .slice A T.length cap] 24) = w0 at *
  have c0 := hbox.cell 0
  have c1 := hbox.cell 1
  simp only [List.getElem?_cons_zero, List.getElem?_cons_succ] at c0 c1
  have HhT := Lib.hid hT; clear hT; have HhTA := Lib.hid hTA; clear hTA; have Hhbox := Lib.hid hbox; clear hbox
  go_enter Tryz.func73, Tryz.ntmps73
  go_wp2_with fail
  clear hw0
  go_loopw [7] (fun i wr => ∃ k : Nat, k ≤ T.length ∧ i = .int .i64 k ∧ wr = w0 ∧ ∀ c, c < 3 * k → ¬ (Mesh.vt T c = x ∧ Mesh.vt T (nx c) = y)) (fun i _ => T.length - (intOf i).toNat)
  case atStart => exact ⟨0, by omega, rfl, rfl, fun c hc => by omega⟩
  case round =>
    obtain ⟨k, hk, rfl, hw9, hno⟩ := hrel
    have hw9 := hw9.symm
    subst hw9
    have Hhno := Lib.hid hno; clear hno
    by_cases hlt : k < T.length
    · obtain ⟨b, o, rfl, hb, hcell⟩ := tri_cells HhTA.out hlt
      have hbw : b < w0.heap.size := by have := hb1.size; omega
      have Hhcell := Lib.hid hcell; clear hcell
      go_wp2_with fail
      go_loopw [8] (fun j wr => ∃ m : Nat, m ≤ 3 ∧ j = .int .i64 m ∧ wr = w0 ∧ ∀ c, c < 3 * k + m → ¬ (Mesh.vt T c = x ∧ Mesh.vt T (nx c) = y)) (fun j _ => 3 - (intOf j).toNat)
      case atStart => exact ⟨0, by omega, rfl, rfl, fun c hc => Hhno.out c (by omega)⟩
      case round =>
        obtain ⟨m, hm, rfl, hw9, hno2⟩ := hrel
        have hw9 := hw9.symm
        subst hw9
        by_cases hm3 : m < 3
        · have hc2 := Hhcell.out m hm3
          have hc3 := Hhcell.out ((m + 1) % 3) (by omega)
          rw [← nx_three k m hm3] at hc3
          have hstep : ¬ (Mesh.vt T (3 * k + m) = x ∧ Mesh.vt T (nx (3 * k + m)) = y) → ∀ c, c < 3 * k + (m + 1) → ¬ (Mesh.vt T c = x ∧ Mesh.vt T (nx c) = y) := by
            intro h8 c hc
            by_cases h7 : c = 3 * k + m
            · rw [h7]; exact h8
            · exact hno2 c (by omega)
          have hat : Mesh.vt T (3 * k + m) = x ∧ Mesh.vt T (nx (3 * k + m)) = y → oi ((dirc T x y).map (· / 3)) = (k : Int) := by
            intro h8
            rw [dirc_at (by omega) h8 hno2]
            show (((3 * k + m) / 3 : Nat) : Int) = k
            omega
          generalize Mesh.vt T (3 * k + m) = p at *
          generalize Mesh.vt T (nx (3 * k + m)) = q at *
          have Hhno2 := Lib.hid hno2; clear hno2; have Hhstep := Lib.hid hstep; clear hstep; have Hhat := Lib.hid hat; clear hat
          by_cases hp : p = x
          · by_cases hq : q = y
            · go_wp2_with fail
              go_ret
              exact ⟨ret_int (Hhat.out ⟨hp, hq⟩).symm, hb1⟩
            · go_wp2_with fail
              exact ⟨⟨m + 1, by omega, by simp, trivial, Hhstep.out fun h9 => hq h9.2⟩, by simp [intOf]; omega⟩
          · go_wp2_with fail
            exact ⟨⟨m + 1, by omega, by simp, trivial, Hhstep.out fun h9 => hp h9.1⟩, by simp [intOf]; omega⟩
        · have hm4 : m = 3 := by omega
          subst hm4
          have Hhno2 := Lib.hid hno2; clear hno2
          go_wp2_with fail
          exact ⟨⟨k + 1, by omega, by simp, trivial, fun c hc => Hhno2.out c (by omega)⟩, by simp [intOf]; omega⟩
    · have hkl : k = T.length := by omega
      subst hkl
      have hd : oi ((dirc T x y).map (· / 3)) = -1 := by rw [dirc_none Hhno.out]; rfl
      have Hhd := Lib.hid hd; clear hd
      go_wp2_with fail
      go_ret
      exact ⟨ret_int Hhd.out.symm, hb1⟩

set_option maxRecDepth 20000 in
set_option maxHeartbeats 1000000 in
theorem at_calls {w : World} {B : Nat} {sv : Value} {N : Int} {T : List T3} (hT : Sl 3 RTri w B sv T) (hB0 : B ≤ w.heap.size) (hfew : T.length ≤ 8192) (hs : Surf N T) (c : Nat) (hc : c < 3 * T.length) :
    Calls Tryz.prog 119 #[.agg #[.int .i64 N, sv], .int .i64 ((c / 3 : Nat) : Int), .int .i64 (Mesh.vt T c)] w fun e w' => e = .returned (.int .i64 (c : Int)) ∧ Below w.heap.size w w' := by
  obtain ⟨A, cap, rfl, hcap⟩ := hT.form
  obtain ⟨b, o, rfl, hb, hcell⟩ := tri_cells hT (i := c / 3) (by omega)
  have hbw : b < w.heap.size := by omega
  have hbox := Bk.new w 24 [.int .i64 N, .slice (some ⟨b, o, none⟩) T.length cap]
  have hb1 := (Below.refl w.heap.size w).alloc (Nat.le_refl _) (.cells #[.int .i64 N, .slice (some ⟨b, o, none⟩) T.length cap] 24)
  have hcell0 : ∀ k, k < 3 → (w.alloc (.cells #[.int .i64 N, .slice (some ⟨b, o, none⟩) T.length cap] 24)).cell? ⟨b, o + c / 3 * 3 + k, none⟩ = some (.int .i64 (Mesh.vt T (3 * (c / 3) + k))) := fun k hk => (hb1.cell (p := ⟨b, o + c / 3 * 3 + k, none⟩) hbw).trans (hcell k hk)
  have hsame : ∀ k, k < 3 → Mesh.vt T (3 * (c / 3) + k) = Mesh.vt T c → 3 * (c / 3) + k = c := fun k hk e => hs.same_tri (by omega) (by omega) e
  have hself := vt_at T c
  have c0 := hbox.cell 0
  have c1 := hbox.cell 1
  simp only [List.getElem?_cons_zero, List.getElem?_cons_succ] at c0 c1
  generalize hw0 : w.alloc (.cells #[.int .i64 N, .slice (some ⟨b, o, none⟩) T.length cap] 24) = w0 at *
  generalize hx : Mesh.vt T c = x at *
  have HhT := Lib.hid hT; clear hT; have Hhbox := Lib.hid hbox; clear hbox; have Hhcell := Lib.hid hcell; clear hcell; have Hhcell0 := Lib.hid hcell0; clear hcell0; have Hhsame := Lib.hid hsame; clear hsame; have Hhself := Lib.hid hself; clear hself; have Hhx := Lib.hid hx; clear hx; have Hhs := Lib.hid hs; clear hs
  go_enter Tryz.func119, Tryz.ntmps119
  go_wp2_with fail
  clear hw0
  go_loopw [7] (fun i wr => ∃ k : Nat, k ≤ c % 3 ∧ i = .int .i64 k ∧ wr = w0) (fun i _ => 3 - (intOf i).toNat)
  case atStart => exact ⟨0, by omega, rfl, rfl⟩
  case round =>
    obtain ⟨k, hk, rfl, hw9⟩ := hrel
    have hw9 := hw9.symm
    subst hw9
    have hbw0 : b < w0.heap.size := by have := hb1.size; omega
    have hcc := Hhcell0.out k (by omega)
    have hlt : k < 3 := by omega
    have hck : c / 3 < T.length := by omega
    by_cases hkc : k = c % 3
    · have hr : Mesh.vt T (3 * (c / 3) + k) = x := by rw [hkc]; exact Hhself.out
      rw [hr] at hcc
      have hfin : 3 * ((c / 3 : Nat) : Int) + (k : Int) = (c : Int) := by omega
      generalize c / 3 = d at *
      have Hhr := Lib.hid hr; clear hr; have Hhkc := Lib.hid hkc; clear hkc
      go_wp2_with fail
      go_ret
      exact ⟨ret_int (by omega), hb1⟩
    · have hr : ¬ Mesh.vt T (3 * (c / 3) + k) = x := fun e => hkc (by have := Hhsame.out k hlt e; omega)
      generalize Mesh.vt T (3 * (c / 3) + k) = p at *
      generalize c / 3 = d at *
      go_wp2_with fail
      exact ⟨⟨k + 1, by omega, by simp, trivial⟩, by simp [intOf]; omega⟩
end Go.Proofs.YtpbdcppaiafbgaaGreat

namespace Go.Mesh
theorem least_snoc (p : Nat → Bool) : ∀ n k, leastFrom p k (n + 1) = match leastFrom p k n with
    | some c => some c
    | none => if p (k + n) then some (k + n) else none
  | 0, k => by simp [leastFrom]
  | n + 1, k => by
    unfold leastFrom
    by_cases h : p k = true
    · rw [if_pos h, if_pos h]
    · rw [if_neg h, if_neg h, least_snoc p n (k + 1), show k + 1 + n = k + (n + 1) by omega]
def lowI (T : List T3) (v : Int) (k : Nat) : Int := oi (leastFrom (fun c => vt T c == v) 0 k)
theorem lowI_step {T : List T3} {v : Int} {k : Nat} : lowI T v (k + 1) = if lowI T v k < 0 then (if vt T k = v then (k : Int) else -1) else lowI T v k := by
  unfold lowI
  rw [least_snoc]
  cases h : leastFrom (fun c => vt T c == v) 0 k with
  | some c =>
    have : ¬ oi (some c) < 0 := by simp [oi]
    simp only [if_neg this]
  | none =>
    have : oi none < 0 := by simp [oi]
    simp only [if_pos this, Nat.zero_add, beq_iff_eq]
    split <;> rfl
theorem lowI_range (T : List T3) (v : Int) (k : Nat) (hk : k ≤ 24576) : -1 ≤ lowI T v k ∧ lowI T v k ≤ 24576 := by
  unfold lowI
  cases h : leastFrom (fun c => vt T c == v) 0 k with
  | none => simp [oi]
  | some c =>
    have := ((leastFrom_some _ _ _ _).1 h).2.1
    show -1 ≤ (c : Int) ∧ (c : Int) ≤ 24576
    omega
def Free (T : List T3) (v : Int) (k : Nat) : Prop := ∀ d, d < k → vt T d = v → bef T d ≠ none
theorem refFirst_end {T : List T3} {v : Int} (h : Free T v (3 * T.length)) : oi (refFirst T v) = lowI T v (3 * T.length) := by
  have : leastFrom (fun c => vt T c == v && (bef T c).isNone) 0 (3 * T.length) = none := (leastFrom_none _ _ _).2 fun c _ hc => by
    cases hv : vt T c == v with
    | false => rfl
    | true =>
      have := h c (by omega) (by simpa using hv)
      cases hb : bef T c with
      | none => exact absurd hb this
      | some d => rfl
  unfold refFirst
  rw [this]
  rfl
theorem refFirst_at {T : List T3} {v : Int} {k : Nat} (hk : k < 3 * T.length) (h : Free T v k) (hv : vt T k = v) (hb : bef T k = none) : oi (refFirst T v) = (k : Int) := by
  have : leastFrom (fun c => vt T c == v && (bef T c).isNone) 0 (3 * T.length) = some k := (leastFrom_some _ _ _ _).2 ⟨by omega, by omega, by simp [hv, hb], fun d _ hd => by
    cases hv : vt T d == v with
    | false => rfl
    | true =>
      have := h d hd (by simpa using hv)
      cases hb : bef T d with
      | none => exact absurd hb this
      | some d => rfl⟩
  unfold refFirst
  rw [this]
  rfl
end Go.Mesh
namespace Go.Proofs.YtpbdcppaiafbgaaGreat
open Go Go.RowKit Go.Words Go.Mesh

theorem sl_nvals {w : World} {base : Nat} {v : Value} {l : List Nat} (h : w.ownsRow base 3 1 v l.length (nvals l)) : Sl 1 RInt w w.heap.size v (l.map fun n : Nat => (n : Int)) := by
  refine Sl.of_own (base := base) (e := 3) (xs := nvals l) (by rw [List.length_map]; exact h) fun i a hi => ?_
  rw [List.getElem?_map] at hi
  unfold RInt
  obtain ⟨x, hx, rfl⟩ := Option.map_eq_some_iff.1 hi
  have hlt := (List.getElem?_eq_some_iff.1 hx).1
  unfold nvals
  rw [Nat.mul_one, List.drop_eq_getElem_cons (by simpa using hlt)]
  simp only [List.take_succ_cons, List.take_zero, List.getElem_map]
  rw [List.getElem?_eq_getElem hlt] at hx
  rw [Option.some.inj hx]
theorem own_nat_at {w : World} {base g n cap : Nat} {l : List Nat} (h : w.ownsRow base 3 1 (.slice (some ⟨g, 0, none⟩) n cap) n (nvals l)) (hl : l.length = n) {i : Nat} (hi : i < l.length) :
    w.cell? ⟨g, i, none⟩ = some (.int .i64 (l[i] : Int)) ∧ g < w.heap.size ∧ base ≤ g := by
  have hb := h.lt g rfl
  subst hl
  have hs := sl_nvals h
  have hlen : (l.map fun n : Nat => (n : Int)).length = l.length := List.length_map _
  obtain ⟨b, o, cs, h1, h2, h3, h4, h5⟩ := Sl.at_ hs (List.getElem?_eq_getElem (l := l.map fun n : Nat => (n : Int)) (i := i) (by omega))
  injection h1 with h1
  injection h1 with h1 h6
  subst h1; subst h6
  unfold RInt at h4
  subst h4
  refine ⟨?_, hb.2, hb.1⟩
  have := h5 0 _ rfl
  simpa using this
theorem own_one {w : World} {base : Nat} {e : TypeId} (x : Value) (hb : base ≤ w.heap.size) : (w.alloc (.cells #[x] e)).ownsRow base e 1 (.slice (some ⟨w.heap.size, 0, none⟩) 1 1) 1 [x] :=
  ⟨rfl, .inr ⟨w.heap.size, 1, #[x], rfl, hb, heap_alloc_new w _, Nat.le_refl _, by unfold maxLen; omega, rfl, rfl⟩⟩
theorem vt_one (T : List T3) (c : Nat) : Mesh.vt T (3 * (c / 3) + (c + 1) % 3) = Mesh.vt T (nx c) := by unfold nx; congr 1; omega
theorem vt_two (T : List T3) (c : Nat) : Mesh.vt T (3 * (c / 3) + (c + 2) % 3) = Mesh.vt T (pv c) := by unfold pv; congr 1; omega

set_option maxRecDepth 40000 in
set_option maxHeartbeats 2000000 in
theorem refAround_calls {w : World} {B : Nat} {sv : Value} {N : Int} {T : List T3} (hT : Sl 3 RTri w B sv T) (hB0 : B ≤ w.heap.size) (hs : Surf N T) (v : Int) :
    Calls Tryz.prog 116 #[.agg #[.int .i64 N, sv], .int .i64 v] w fun e w' => (∃ r, e = .returned r ∧ w'.ownsRow w.heap.size 3 1 r (ringAt T N v).length (nvals (ringAt T N v))) ∧ Below w.heap.size w w' := by
  obtain ⟨A, cap, rfl, hcap⟩ := hT.form
  have hfew := hs.tmax
  have hbox := Bk.new w 24 [.int .i64 N, .slice A T.length cap]
  have hb1 := (Below.refl w.heap.size w).alloc (Nat.le_refl _) (.cells #[.int .i64 N, .slice A T.length cap] 24)
  have hTA := hT.below keeps_tri (hb1.mono hB0)
  have hle : B ≤ (w.alloc (.cells #[.int .i64 N, .slice A T.length cap] 24)).heap.size := by rw [World.size_alloc]; omega
  have hbl := hbox.lt
  have c0 := hbox.cell 0
  have c1 := hbox.cell 1
  simp only [List.getElem?_cons_zero, List.getElem?_cons_succ] at c0 c1
  generalize hw0 : w.alloc (.cells #[.int .i64 N, .slice A T.length cap] 24) = w0 at *
  have HhT := Lib.hid hT; clear hT; have HhTA := Lib.hid hTA; clear hTA; have Hhbox := Lib.hid hbox; clear hbox; have Hhs := Lib.hid hs; clear hs
  go_enter Tryz.func116, Tryz.ntmps116
  go_upto_block 0 with fail
  go_cut [5] (fun s5 wx => s5 = .int .i64 (oi (refFirst T v)) ∧ Below w0.heap.size w0 wx)
  case first =>
    go_wp2_with fail
    go_loopw [5, 6] (fun f i wr => ∃ k : Nat, k ≤ 3 * T.length ∧ i = .int .i64 k ∧ f = .int .i64 (lowI T v k) ∧ Free T v k ∧ Below w0.heap.size w0 wr) (fun _ i _ => 3 * T.length - (intOf i).toNat)
    case atStart => exact ⟨0, by omega, rfl, rfl, fun d hd => by omega, Below.refl _ _⟩
    case round =>
      obtain ⟨k, hk, rfl, rfl, hfree, hbel⟩ := hrel
      have hgl : w.heap.size < w0.heap.size := hbl
      have c0r : wr.cell? ⟨w.heap.size, 0, none⟩ = some (.int .i64 N) := (hbel.cell (p := ⟨w.heap.size, 0, none⟩) hgl).trans c0
      have c1r : wr.cell? ⟨w.heap.size, 1, none⟩ = some (.slice A T.length cap) := (hbel.cell (p := ⟨w.heap.size, 1, none⟩) hgl).trans c1
      have hTr := HhTA.out.below keeps_tri (hbel.mono hle)
      have hsz := hbel.size
      have hlr := lowI_range T v k (by omega)
      by_cases hkl : k < 3 * T.length
      · obtain ⟨b, o, rfl, hb, hcc⟩ := tri_cell hTr hkl
        have hk3 : k / 3 < T.length := by omega
        have hstep := lowI_step (T := T) (v := v) (k := k)
        by_cases hv : Mesh.vt T k = v
        · rw [hv] at hcc
          rw [if_pos hv] at hstep
          have hbh := behind_calls (N := N) (hTr.below keeps_tri (Below.refl _ wr).drew) (by show B ≤ wr.heap.size; omega) hfew k 1 hkl (.inl rfl)
          rw [vt_one] at hbh
          have hwi := fun wz (hz : Sl 3 RTri wz B (.slice (some ⟨b, o, none⟩) T.length cap) T) (hz2 : B ≤ wz.heap.size) => with_calls (N := N) hz hz2 hfew (Mesh.vt T (nx k)) v
          rw [← hv, Hhs.out.dirc_bef k, hv] at hwi
          have hnf : bef T k ≠ none → Free T v (k + 1) := by
            intro h8 d hd hdv
            by_cases h7 : d = k
            · rw [h7]; exact h8
            · exact hfree d (by omega) hdv
          have hat : bef T k = none → oi (refFirst T v) = (k : Int) := refFirst_at hkl hfree hv
          have hff : ∃ o9 : Option Nat, ((bef T k).map pv).map (· / 3) = o9 ∧ (o9 = none ↔ bef T k = none) := ⟨_, rfl, by simp⟩
          obtain ⟨o9, ho9, hoi⟩ := hff
          rw [ho9] at hwi
          clear ho9
          generalize Mesh.vt T (nx k) = q at *
          generalize oi (refFirst T v) = rf at *
          have HhTr := Lib.hid hTr; clear hTr; have Hhbh := Lib.hid hbh; clear hbh; have Hhwi := Lib.hid hwi; clear hwi; have Hhfree := Lib.hid hfree; clear hfree; have Hhstep := Lib.hid hstep; clear hstep; have Hhnf := Lib.hid hnf; clear hnf; have Hhat := Lib.hid hat; clear hat; have Hhoi := Lib.hid hoi; clear hoi; have Hhv := Lib.hid hv; clear hv
          by_cases hlow : lowI T v k < 0
          · have hs2 : lowI T v (k + 1) = (k : Int) := by rw [Hhstep.out, if_pos hlow]
            generalize lowI T v k = lo at *
            have Hhs2 := Lib.hid hs2; clear hs2
            go_wp2_with fail
            refine Go.Canon.wp_region_tree [0] (fun b => b = w.heap.size) (.seg [0,1,2,4] (.alt 3 (.alt 5 (.seg [6] .fin) .no) .no)) mixed (by kernel_rfl) ?_
            refine Go.Canon.tr_seg ?_
            simp only [List.map_cons, List.map_nil, List.getD_cons_zero, List.getD_cons_succ]
            go_wp2_with fail
            refine Go.Canon.tr_to (Go.Canon.tr_one ?_)
            simp only [List.getD_cons_zero, List.getD_cons_succ]
            go_wp2_with fail
            refine Hhbh.out.mono ?_
            rintro e w1 ⟨rfl, hb9⟩
            have hbel1 := hbel.drew.trans (hb9.mono hsz)
            have hz1 := hb9.size
            go_wp2_with fail
            refine Go.Canon.tr_end (fun b h9 => by subst h9; exact hb9.block _ (by show w.heap.size < wr.heap.size; omega)) (Go.Canon.tr_one ?_)
            simp only [List.getD_cons_zero, List.getD_cons_succ]
            go_wp2_with fail
            refine (Hhwi.out w1 (HhTA.out.below keeps_tri (hbel1.mono hle)) (by simp only [World.size_drew] at hz1; omega)).mono ?_
            rintro e w2 ⟨rfl, hb8⟩
            have hbel2 := hbel1.trans (hb8.mono hbel1.size)
            have hz2 := hb8.size
            go_wp2_with fail
            refine Go.Canon.tr_end (fun b h9 => by subst h9; exact (hb8.block _ (by simp only [World.size_drew] at hz1; omega)).trans (hb9.block _ (by show w.heap.size < wr.heap.size; omega))) (Go.Canon.tr_seg ?_)
            simp only [List.map_cons, List.map_nil, List.getD_cons_zero, List.getD_cons_succ]
            cases o9 with
            | none =>
              have hbn := Hhoi.out.1 rfl
              have hrf := Hhat.out hbn
              have Hhbn := Lib.hid hbn; clear hbn; have Hhrf := Lib.hid hrf; clear hrf
              go_wp2_with fail
              refine Go.Canon.tr_to (Go.Canon.tr_fin (by rfl) (List.forall_mem_cons.2 ⟨.inl ⟨_, rfl, rfl, by rw [World.cell?_drew, c0r]; rfl⟩, fun _ h => by cases h⟩) ?_)
              go_wp2_with fail
              go_meet
              exact ⟨by rw [Hhrf.out], hbel2⟩
            | some o9 =>
              have hbn : bef T k ≠ none := fun h9 => by cases Hhoi.out.2 h9
              have hfr := Hhnf.out hbn
              have Hhbn := Lib.hid hbn; clear hbn; have Hhfr := Lib.hid hfr; clear hfr
              go_wp2_with fail
              refine Go.Canon.tr_to (Go.Canon.tr_fin (by rfl) (List.forall_mem_cons.2 ⟨.inl ⟨_, rfl, rfl, by rw [World.cell?_drew, c0r]; rfl⟩, fun _ h => by cases h⟩) ?_)
              go_wp2_with fail
              exact ⟨⟨k + 1, by omega, by simp, by rw [Hhs2.out], Hhfr.out, hbel2⟩, by simp [intOf]; omega⟩
          · have hs2 : lowI T v (k + 1) = lowI T v k := by rw [Hhstep.out, if_neg hlow]
            generalize lowI T v k = lo at *
            have Hhs2 := Lib.hid hs2; clear hs2
            go_wp2_with fail
            refine Go.Canon.wp_region_tree [0] (fun b => b = w.heap.size) (.seg [0,1,2,4] (.alt 3 (.alt 5 (.seg [6] .fin) .no) .no)) mixed (by kernel_rfl) ?_
            refine Go.Canon.tr_seg ?_
            simp only [List.map_cons, List.map_nil, List.getD_cons_zero, List.getD_cons_succ]
            go_wp2_with fail
            refine Go.Canon.tr_to (Go.Canon.tr_one ?_)
            simp only [List.getD_cons_zero, List.getD_cons_succ]
            go_wp2_with fail
            refine Hhbh.out.mono ?_
            rintro e w1 ⟨rfl, hb9⟩
            have hbel1 := hbel.drew.trans (hb9.mono hsz)
            have hz1 := hb9.size
            go_wp2_with fail
            refine Go.Canon.tr_end (fun b h9 => by subst h9; exact hb9.block _ (by show w.heap.size < wr.heap.size; omega)) (Go.Canon.tr_one ?_)
            simp only [List.getD_cons_zero, List.getD_cons_succ]
            go_wp2_with fail
            refine (Hhwi.out w1 (HhTA.out.below keeps_tri (hbel1.mono hle)) (by simp only [World.size_drew] at hz1; omega)).mono ?_
            rintro e w2 ⟨rfl, hb8⟩
            have hbel2 := hbel1.trans (hb8.mono hbel1.size)
            have hz2 := hb8.size
            go_wp2_with fail
            refine Go.Canon.tr_end (fun b h9 => by subst h9; exact (hb8.block _ (by simp only [World.size_drew] at hz1; omega)).trans (hb9.block _ (by show w.heap.size < wr.heap.size; omega))) (Go.Canon.tr_seg ?_)
            simp only [List.map_cons, List.map_nil, List.getD_cons_zero, List.getD_cons_succ]
            cases o9 with
            | none =>
              have hbn := Hhoi.out.1 rfl
              have hrf := Hhat.out hbn
              have Hhbn := Lib.hid hbn; clear hbn; have Hhrf := Lib.hid hrf; clear hrf
              go_wp2_with fail
              refine Go.Canon.tr_to (Go.Canon.tr_fin (by rfl) (List.forall_mem_cons.2 ⟨.inl ⟨_, rfl, rfl, by rw [World.cell?_drew, c0r]; rfl⟩, fun _ h => by cases h⟩) ?_)
              go_wp2_with fail
              go_meet
              exact ⟨by rw [Hhrf.out], hbel2⟩
            | some o9 =>
              have hbn : bef T k ≠ none := fun h9 => by cases Hhoi.out.2 h9
              have hfr := Hhnf.out hbn
              have Hhbn := Lib.hid hbn; clear hbn; have Hhfr := Lib.hid hfr; clear hfr
              go_wp2_with fail
              refine Go.Canon.tr_to (Go.Canon.tr_fin (by rfl) (List.forall_mem_cons.2 ⟨.inl ⟨_, rfl, rfl, by rw [World.cell?_drew, c0r]; rfl⟩, fun _ h => by cases h⟩) ?_)
              go_wp2_with fail
              exact ⟨⟨k + 1, by omega, by simp, by rw [Hhs2.out], Hhfr.out, hbel2⟩, by simp [intOf]; omega⟩
        · rw [if_neg hv] at hstep
          have hs2 : lowI T v (k + 1) = lowI T v k := by
            rw [hstep]
            split
            · have := hlr.1; omega
            · rfl
          have hfr : Free T v (k + 1) := by
            intro d hd hdv
            by_cases h7 : d = k
            · rw [h7] at hdv; exact absurd hdv hv
            · exact hfree d (by omega) hdv
          generalize Mesh.vt T k = q at *
          generalize lowI T v k = lo at *
          have HhTr := Lib.hid hTr; clear hTr; have Hhfree := Lib.hid hfree; clear hfree; have Hhstep := Lib.hid hstep; clear hstep; have Hhs2 := Lib.hid hs2; clear hs2; have Hhfr := Lib.hid hfr; clear hfr
          go_wp2_with fail
          exact ⟨⟨k + 1, by omega, by simp, by rw [Hhs2.out], Hhfr.out, hbel⟩, by simp [intOf]; omega⟩
      · obtain rfl : k = 3 * T.length := by omega
        have hrf := refFirst_end hfree
        generalize lowI T v (3 * T.length) = lo at *
        have HhTr := Lib.hid hTr; clear hTr; have Hhfree := Lib.hid hfree; clear hfree; have Hhrf := Lib.hid hrf; clear hrf
        go_wp2_with fail
        go_meet
        exact ⟨by rw [Hhrf.out], hbel⟩
  case rest =>
    obtain ⟨rfl, hbel⟩ := hcut
    have hlen := Hhs.out.ring_len v
    have hbw := hb1.trans (hbel.mono hb1.size)
    rw [Hhs.out.ref_first v]
    rcases Hhs.out.ring_or v with ⟨h1, h2, _⟩ | ⟨hl, hv, hr⟩
    · rw [h1]
      rw [show oi (([] : List Nat).head?) = -1 from rfl]
      have hret : (∃ r, Ending.returned (.slice none 0 0) = Ending.returned r ∧ wc.ownsRow w.heap.size 3 1 r (ringAt T N v).length (nvals (ringAt T N v))) ∧ Below w.heap.size w wc := by
        rw [h1]
        exact ⟨⟨_, rfl, World.ownsRow_nil _ _ _ _⟩, hbw⟩
      have Hh1 := Lib.hid h1; clear h1; have Hhret := Lib.hid hret; clear hret
      go_wp2_with fail
      go_ret
      exact Hhret.out
    · have hh : (ringAt T N v).head? = some (ringAt T N v)[0] := by rw [List.head?_eq_getElem?, List.getElem?_eq_getElem hl]
      rw [hh, show oi (some (ringAt T N v)[0]) = (((ringAt T N v)[0] : Nat) : Int) from rfl]
      obtain ⟨b0, hrun⟩ := hr.run
      have hmem := hr.mem
      generalize hL : ringAt T N v = l at *
      clear hh hr
      have HhL := Lib.hid hL; clear hL
      have hx0 : ∃ x0 : Nat, l[0] = x0 := ⟨_, rfl⟩
      obtain ⟨x0, hx0⟩ := hx0
      rw [hx0]
      have hszc := hbw.size
      have hmade := own_one (base := w0.heap.size) (e := 3) (w := wc) (.int .i64 (x0 : Int)) hbel.size
      have hx0lt : x0 < 3 * T.length := by rw [← hx0]; exact ((hmem _).1 (List.getElem_mem _)).1
      have hx0n : (0 : Int) ≤ x0 := by omega
      have hbel0 := hbel.trans ((Below.refl w0.heap.size wc).alloc hbel.size (.cells #[.int .i64 (x0 : Int)] 3))
      generalize hwa : wc.alloc (.cells #[.int .i64 (x0 : Int)] 3) = wa at *
      have hgl : w.heap.size < w0.heap.size := hbl
      have Hhrun := Lib.hid hrun; clear hrun; have Hhmem := Lib.hid hmem; clear hmem; have Hhx0 := Lib.hid hx0; clear hx0; have Hhmade := Lib.hid hmade; clear hmade; have Hhbel := Lib.hid hbel; clear hbel; have Hhbel0 := Lib.hid hbel0; clear hbel0; have Hhbw := Lib.hid hbw; clear hbw
      go_wp2_with fail
      clear hwa
      go_loopw [7, 8] (fun o i wr => ∃ (k : Nat), k < l.length ∧ i = .int .i64 k ∧ wr.ownsRow w0.heap.size 3 1 o (k + 1) (nvals (l.take (k + 1))) ∧ Below w0.heap.size w0 wr) (fun _ i _ => T.length - (intOf i).toNat)
      case atStart =>
        refine ⟨0, hl, rfl, ?_, Hhbel0.out⟩
        rw [List.take_succ_eq_append_getElem hl, List.take_zero, Hhx0.out]
        exact Hhmade.out
      case round =>
        obtain ⟨k, hk, rfl, hown, hbelr⟩ := hrel
        have c0r : wr.cell? ⟨w.heap.size, 0, none⟩ = some (.int .i64 N) := (hbelr.cell (p := ⟨w.heap.size, 0, none⟩) hgl).trans c0
        have c1r : wr.cell? ⟨w.heap.size, 1, none⟩ = some (.slice A T.length cap) := (hbelr.cell (p := ⟨w.heap.size, 1, none⟩) hgl).trans c1
        have hTr := HhTA.out.below keeps_tri (hbelr.mono hle)
        have hszr := hbelr.size
        obtain ⟨g, cap2, rfl⟩ := ownsRow_succ hown
        have htl : (l.take (k + 1)).length = k + 1 := by rw [List.length_take]; omega
        obtain ⟨hcell, hgr, hgw⟩ := own_nat_at hown htl (i := k) (by omega)
        rw [List.getElem_take] at hcell
        have hm := (Hhmem.out l[k]).1 (List.getElem_mem hk)
        have haf := Hhs.out.dirc_aft l[k]
        rw [hm.2] at haf
        have hbh := behind_calls (N := N) (hTr.below keeps_tri (Below.refl _ wr).drew) (by show B ≤ wr.heap.size; omega) hfew l[k] 2 hm.1 (.inr rfl)
        rw [vt_two] at hbh
        have hwi := fun wz (hz : Sl 3 RTri wz B (.slice A T.length cap) T) (hz2 : B ≤ wz.heap.size) => with_calls (N := N) hz hz2 hfew v (Mesh.vt T (pv l[k]))
        rw [haf] at hwi
        have hklt : k < T.length := by omega
        have hrun := Hhrun.out
        have hx0 := Hhx0.out
        have hb0 : b0 = x0 := by rw [← hrun.head]; exact hx0
        have htk : k + 1 = l.length → l.take (k + 1) = l := fun h9 => List.take_of_length_le (by omega)
        have hstep := hrun.steps k
        have hlastk : k + 1 = l.length → l[l.length - 1]'(by omega) = l[k] := fun h9 => by congr 1; omega
        have hlast := hrun.last
        have hfin : ∀ (wz : World), k + 1 = l.length → wz.ownsRow w0.heap.size 3 1 (.slice (some ⟨g, 0, none⟩) (k + 1) cap2) (k + 1) (nvals (l.take (k + 1))) → wz.ownsRow w.heap.size 3 1 (.slice (some ⟨g, 0, none⟩) (k + 1) cap2) l.length (nvals l) := fun wz h9 h8 => by rw [htk h9] at h8; rw [← h9]; exact own_base h8 hb1.size
        have hkeep : ∀ b, b = w.heap.size → b < wr.heap.size := fun b e => by omega
        have hbw2 : ∀ wz : World, Below w0.heap.size w0 wz → Below w.heap.size w wz := fun wz h9 => hb1.trans (h9.mono hb1.size)
        cases ha : aft T l[k] with
        | none =>
          have hend : k + 1 = l.length := by
            rcases Nat.lt_or_ge (k + 1) l.length with h9 | h9
            · have := hstep h9; rw [ha] at this; cases this
            · omega
          rw [ha] at hwi
          change ∀ wz, _ → _ → Calls _ _ _ _ (fun e w' => e = .returned (.int .i64 (-1)) ∧ _) at hwi
          have hfin := fun wz => hfin wz hend
          generalize Mesh.vt T (pv l[k]) = q at *
          generalize hlk : l[k] = lk at *
          clear hlast hlastk
          have HhTr := Lib.hid hTr; have Hhbh := Lib.hid hbh; have Hhwi := Lib.hid hwi; have Hhown := Lib.hid hown; have Hhtl := Lib.hid htl; have Hhaf := Lib.hid haf; have Hhm := Lib.hid hm; have Hhrun := Lib.hid hrun; have Hhx0 := Lib.hid hx0; have Hhb0 := Lib.hid hb0; have Hhtk := Lib.hid htk; have Hhstep := Lib.hid hstep; have Hhfin := Lib.hid hfin; have Hha := Lib.hid ha; have Hhend := Lib.hid hend; have Hhlk := Lib.hid hlk; have Hhbw2 := Lib.hid hbw2; clear hTr hbh hwi hown htl haf hm hrun hx0 hb0 htk hstep hfin ha hend hlk hbw2
          go_wp2_with fail
          refine Go.Canon.wp_region_tree [0] (fun b => b = w.heap.size) (.seg [0,1,2,3,4,5,6,7,8] (.alt 9 (.alt 10 (.seg [11] .fin) .no) .no)) mixed (by kernel_rfl) ?_
          refine Go.Canon.tr_seg ?_
          simp only [List.map_cons, List.map_nil, List.getD_cons_zero, List.getD_cons_succ]
          go_wp2_with fail
          refine Go.Canon.tr_to (Go.Canon.tr_one ?_)
          simp only [List.getD_cons_zero, List.getD_cons_succ]
          go_wp2_with fail
          refine Hhbh.out.mono ?_
          rintro e w1 ⟨rfl, hb9⟩
          have hz1 : wr.heap.size ≤ w1.heap.size := hb9.size
          have hbr1 : Below wr.heap.size wr w1 := (Below.refl _ wr).drew.trans hb9
          go_wp2_with fail
          refine Go.Canon.tr_end (fun b h9 => hbr1.block b (hkeep b h9)) (Go.Canon.tr_one ?_)
          simp only [List.getD_cons_zero, List.getD_cons_succ]
          go_wp2_with fail
          refine (Hhwi.out w1 (HhTr.out.below keeps_tri (hbr1.mono (by omega))) (by omega)).mono ?_
          rintro e w2 ⟨rfl, hb8⟩
          have hbr2 := hbr1.trans (hb8.mono hz1)
          have hz2 := hbr2.size
          go_wp2_with fail
          refine Go.Canon.tr_end (fun b h9 => hbr2.block b (hkeep b h9)) (Go.Canon.tr_seg ?_)
          simp only [List.map_cons, List.map_nil, List.getD_cons_zero, List.getD_cons_succ]
          go_wp2_with fail
          refine Go.Canon.tr_to (Go.Canon.tr_fin (by rfl) (List.forall_mem_cons.2 ⟨.inl ⟨_, rfl, rfl, by rw [World.cell?_drew, c0r]; rfl⟩, fun _ h => by cases h⟩) ?_)
          have hown2 := own_below Hhown.out hbr2 (Nat.le_refl _)
          have hfin2 := Hhfin.out w2 hown2
          have hbz2 := Hhbw2.out w2 (hbelr.trans (hbr2.mono hszr))
          have Hhown2 := Lib.hid hown2; have Hhfin2 := Lib.hid hfin2; have Hhbz2 := Lib.hid hbz2; clear hown2 hfin2 hbz2
          go_wp2_with fail
          go_ret
          exact ⟨⟨_, rfl, by rw [HhL.out]; exact Hhfin2.out⟩, Hhbz2.out⟩
        | some d =>
          rw [ha] at hwi
          change ∀ wz, _ → _ → Calls _ _ _ _ (fun e w' => e = .returned (.int .i64 ((d / 3 : Nat) : Int)) ∧ _) at hwi
          have hdat := Hhs.out.aft_iff.1 ha
          have hdv : Mesh.vt T d = v := hdat.2.1.trans hm.2
          have hatc := fun wz (hz : Sl 3 RTri wz B (.slice A T.length cap) T) (hz2 : B ≤ wz.heap.size) => at_calls (N := N) hz hz2 hfew Hhs.out d hdat.1
          rw [hdv] at hatc
          have hd3 : (0 : Int) ≤ ((d / 3 : Nat) : Int) := by omega
          generalize Mesh.vt T (pv l[k]) = q at *
          generalize d / 3 = d3 at *
          by_cases hdx : d = x0
          · have hend : k + 1 = l.length := by
              rcases Nat.lt_or_ge (k + 1) l.length with h9 | h9
              · exfalso
                have h8 := hstep h9
                rw [ha, hdx, ← hx0] at h8
                have := (List.getElem_inj hrun.nodup).1 (Option.some.inj h8)
                omega
              · omega
            have hfin := fun wz => hfin wz hend
            generalize hlk : l[k] = lk at *
            subst hdx
            clear hlast hlastk
            have HhTr := Lib.hid hTr; have Hhbh := Lib.hid hbh; have Hhwi := Lib.hid hwi; have Hhown := Lib.hid hown; have Hhtl := Lib.hid htl; have Hhaf := Lib.hid haf; have Hhm := Lib.hid hm; have Hhrun := Lib.hid hrun; have Hhx0 := Lib.hid hx0; have Hhb0 := Lib.hid hb0; have Hhtk := Lib.hid htk; have Hhstep := Lib.hid hstep; have Hhfin := Lib.hid hfin; have Hha := Lib.hid ha; have Hhend := Lib.hid hend; have Hhlk := Lib.hid hlk; have Hhbw2 := Lib.hid hbw2; have Hhdat := Lib.hid hdat; have Hhdv := Lib.hid hdv; have Hhatc := Lib.hid hatc; clear hTr hbh hwi hown htl haf hm hrun hx0 hb0 htk hstep hfin ha hend hlk hbw2 hdat hdv hatc
            go_wp2_with fail
            refine Go.Canon.wp_region_tree [0] (fun b => b = w.heap.size) (.seg [0,1,2,3,4,5,6,7,8] (.alt 9 (.alt 10 (.seg [11] .fin) .no) .no)) mixed (by kernel_rfl) ?_
            refine Go.Canon.tr_seg ?_
            simp only [List.map_cons, List.map_nil, List.getD_cons_zero, List.getD_cons_succ]
            go_wp2_with fail
            refine Go.Canon.tr_to (Go.Canon.tr_one ?_)
            simp only [List.getD_cons_zero, List.getD_cons_succ]
            go_wp2_with fail
            refine Hhbh.out.mono ?_
            rintro e w1 ⟨rfl, hb9⟩
            have hz1 : wr.heap.size ≤ w1.heap.size := hb9.size
            have hbr1 : Below wr.heap.size wr w1 := (Below.refl _ wr).drew.trans hb9
            go_wp2_with fail
            refine Go.Canon.tr_end (fun b h9 => hbr1.block b (hkeep b h9)) (Go.Canon.tr_one ?_)
            simp only [List.getD_cons_zero, List.getD_cons_succ]
            go_wp2_with fail
            refine (Hhwi.out w1 (HhTr.out.below keeps_tri (hbr1.mono (by omega))) (by omega)).mono ?_
            rintro e w2 ⟨rfl, hb8⟩
            have hbr2 := hbr1.trans (hb8.mono hz1)
            have hz2 := hbr2.size
            go_wp2_with fail
            refine Go.Canon.tr_end (fun b h9 => hbr2.block b (hkeep b h9)) (Go.Canon.tr_seg ?_)
            simp only [List.map_cons, List.map_nil, List.getD_cons_zero, List.getD_cons_succ]
            go_wp2_with fail
            refine Go.Canon.tr_to (Go.Canon.tr_fin (by rfl) (List.forall_mem_cons.2 ⟨.inl ⟨_, rfl, rfl, by rw [World.cell?_drew, c0r]; rfl⟩, fun _ h => by cases h⟩) ?_)
            have c0z : w2.cell? ⟨w.heap.size, 0, none⟩ = some (.int .i64 N) := (hbr2.cell (p := ⟨w.heap.size, 0, none⟩) (by show w.heap.size < _; omega)).trans c0r
            have c1z : w2.cell? ⟨w.heap.size, 1, none⟩ = some (.slice A T.length cap) := (hbr2.cell (p := ⟨w.heap.size, 1, none⟩) (by show w.heap.size < _; omega)).trans c1r
            go_wp2_with fail
            refine (Hhatc.out w2 (HhTr.out.below keeps_tri (hbr2.mono (by omega))) (by omega)).mono ?_
            rintro e w3 ⟨rfl, hb7⟩
            have hbr3 := hbr2.trans (hb7.mono hz2)
            have hown2 := own_below Hhown.out hbr3 (Nat.le_refl _)
            have hfin2 := Hhfin.out w3 hown2
            have hbz2 := Hhbw2.out w3 (hbelr.trans (hbr3.mono hszr))
            have Hhown2 := Lib.hid hown2; have Hhfin2 := Lib.hid hfin2; have Hhbz2 := Lib.hid hbz2; clear hown2 hfin2 hbz2
            go_wp2_with fail
            go_ret
            exact ⟨⟨_, rfl, by rw [HhL.out]; exact Hhfin2.out⟩, Hhbz2.out⟩
          · have hk1 : k + 1 < l.length := by
              rcases Nat.lt_or_ge (k + 1) l.length with h9 | h9
              · exact h9
              · exfalso
                rw [hlastk (by omega), ha] at hlast
                rcases hlast with h8 | h8
                · cases h8
                · exact hdx (by rw [← hb0]; exact Option.some.inj h8)
            have hd1 : l[k + 1] = d := by
              have := hstep hk1
              rw [ha] at this
              exact (Option.some.inj this).symm
            have htk1 : l.take (k + 1 + 1) = l.take (k + 1) ++ [d] := by rw [List.take_succ_eq_append_getElem hk1, hd1]
            have hdxi : (d : Int) ≠ (x0 : Int) := by omega
            have hdlt : (0 : Int) ≤ d ∧ (d : Int) < 24576 := by have := hdat.1; omega
            generalize hlk : l[k] = lk at *
            clear hlast hlastk
            have HhTr := Lib.hid hTr; have Hhbh := Lib.hid hbh; have Hhwi := Lib.hid hwi; have Hhown := Lib.hid hown; have Hhtl := Lib.hid htl; have Hhaf := Lib.hid haf; have Hhm := Lib.hid hm; have Hhrun := Lib.hid hrun; have Hhx0 := Lib.hid hx0; have Hhb0 := Lib.hid hb0; have Hhtk := Lib.hid htk; have Hhstep := Lib.hid hstep; have Hhfin := Lib.hid hfin; have Hha := Lib.hid ha; have Hhlk := Lib.hid hlk; have Hhbw2 := Lib.hid hbw2; have Hhdat := Lib.hid hdat; have Hhdv := Lib.hid hdv; have Hhatc := Lib.hid hatc; have Hhd1 := Lib.hid hd1; have Hhtk1 := Lib.hid htk1; clear hTr hbh hwi hown htl haf hm hrun hx0 hb0 htk hstep hfin ha hlk hbw2 hdat hdv hatc hd1 htk1
            go_wp2_with fail
            refine Go.Canon.wp_region_tree [0] (fun b => b = w.heap.size) (.seg [0,1,2,3,4,5,6,7,8] (.alt 9 (.alt 10 (.seg [11] .fin) .no) .no)) mixed (by kernel_rfl) ?_
            refine Go.Canon.tr_seg ?_
            simp only [List.map_cons, List.map_nil, List.getD_cons_zero, List.getD_cons_succ]
            go_wp2_with fail
            refine Go.Canon.tr_to (Go.Canon.tr_one ?_)
            simp only [List.getD_cons_zero, List.getD_cons_succ]
            go_wp2_with fail
            refine Hhbh.out.mono ?_
            rintro e w1 ⟨rfl, hb9⟩
            have hz1 : wr.heap.size ≤ w1.heap.size := hb9.size
            have hbr1 : Below wr.heap.size wr w1 := (Below.refl _ wr).drew.trans hb9
            go_wp2_with fail
            refine Go.Canon.tr_end (fun b h9 => hbr1.block b (hkeep b h9)) (Go.Canon.tr_one ?_)
            simp only [List.getD_cons_zero, List.getD_cons_succ]
            go_wp2_with fail
            refine (Hhwi.out w1 (HhTr.out.below keeps_tri (hbr1.mono (by omega))) (by omega)).mono ?_
            rintro e w2 ⟨rfl, hb8⟩
            have hbr2 := hbr1.trans (hb8.mono hz1)
            have hz2 := hbr2.size
            go_wp2_with fail
            refine Go.Canon.tr_end (fun b h9 => hbr2.block b (hkeep b h9)) (Go.Canon.tr_seg ?_)
            simp only [List.map_cons, List.map_nil, List.getD_cons_zero, List.getD_cons_succ]
            go_wp2_with fail
            refine Go.Canon.tr_to (Go.Canon.tr_fin (by rfl) (List.forall_mem_cons.2 ⟨.inl ⟨_, rfl, rfl, by rw [World.cell?_drew, c0r]; rfl⟩, fun _ h => by cases h⟩) ?_)
            have c0z : w2.cell? ⟨w.heap.size, 0, none⟩ = some (.int .i64 N) := (hbr2.cell (p := ⟨w.heap.size, 0, none⟩) (by show w.heap.size < _; omega)).trans c0r
            have c1z : w2.cell? ⟨w.heap.size, 1, none⟩ = some (.slice A T.length cap) := (hbr2.cell (p := ⟨w.heap.size, 1, none⟩) (by show w.heap.size < _; omega)).trans c1r
            go_wp2_with fail
            refine (Hhatc.out w2 (HhTr.out.below keeps_tri (hbr2.mono (by omega))) (by omega)).mono ?_
            rintro e w3 ⟨rfl, hb7⟩
            have hbr3 := hbr2.trans (hb7.mono hz2)
            have hz3 := hbr3.size
            have c0y : w3.cell? ⟨w.heap.size, 0, none⟩ = some (.int .i64 N) := (hbr3.cell (p := ⟨w.heap.size, 0, none⟩) (by show w.heap.size < _; omega)).trans c0r
            have c1y : w3.cell? ⟨w.heap.size, 1, none⟩ = some (.slice A T.length cap) := (hbr3.cell (p := ⟨w.heap.size, 1, none⟩) (by show w.heap.size < _; omega)).trans c1r
            go_wp2_with fail
            refine (Hhatc.out w3 (HhTr.out.below keeps_tri (hbr3.mono (by omega))) (by omega)).mono ?_
            rintro e w4 ⟨rfl, hb6⟩
            have hbr4 := hbr3.trans (hb6.mono hz3)
            have hz4 := hbr4.size
            have hown4 := own_below Hhown.out hbr4 (Nat.le_refl _)
            have hb4 := hbelr.trans (hbr4.mono hszr)
            have Hhown4 := Lib.hid hown4; clear hown4
            go_wp2_with (at_builtin; refine append_block _ rfl _ _ 28 rfl w0.heap.size infoInt Tryz.underlying28 rfl (by decide) _ (k + 1) _ rfl (Hhown4.out.alloc _) w4.heap.size [.int .i64 (d : Int)] rfl (Bk.new _ _ _) rfl (by simp [Value.oneCell']) (by omega) (by omega) (by simp; omega) ?_; intro v1 w5 hown5 hb5 _ _; have Hhown5 := Lib.hid hown5; clear hown5)
            refine ⟨⟨k + 1, hk1, by simp, ?_, hb4.trans (((Below.refl w0.heap.size w4).alloc (by omega) _).trans (hb5.mono (by omega)))⟩, by simp [intOf]; omega⟩
            rw [Hhtk1.out]
            have := Hhown5.out
            simpa [nvals] using this
end Go.Proofs.YtpbdcppaiafbgaaGreat

namespace Go.Proofs.YtpbdcppaiafbgaaGreat
open Go Go.RowKit Go.Words Go.Mesh

set_option maxRecDepth 20000 in
set_option maxHeartbeats 1000000 in
theorem ints_calls {w : World} {B : Nat} {va vb : Value} {la lb : List Int} (ha : Sl 1 RInt w B va la) (hb : Sl 1 RInt w B vb lb) (hB0 : B ≤ w.heap.size) (hla : la.length ≤ 1000000) :
    Calls Tryz.prog 24 #[va, vb] w fun e w' => e = .returned (.bool (decide (la = lb))) ∧ Below w.heap.size w w' := by
  obtain ⟨A, cap, rfl, hcap⟩ := ha.form
  obtain ⟨C, cap2, rfl, hcap2⟩ := hb.form
  by_cases hll : la.length = lb.length
  case neg =>
    rw [decide_eq_false (fun h9 => hll (by rw [h9]))]
    have hll1 : (la.length : Int) ≠ (lb.length : Int) := by omega
    have Hha := Lib.hid ha; have Hhb := Lib.hid hb; clear ha hb
    go_enter Tryz.func24, Tryz.ntmps24
    go_wp2
    go_ret
    exact ⟨rfl, Below.refl _ _⟩
  case pos =>
    have hll1 : (la.length : Int) = (lb.length : Int) := by omega
    rw [← hll] at hcap2 ⊢
    have Hha := Lib.hid ha; have Hhb := Lib.hid hb; have Hhll := Lib.hid hll; have Hhll1 := Lib.hid hll1; clear ha hb hll hll1
    go_enter Tryz.func24, Tryz.ntmps24
    go_wp2_with fail
    go_loopw [5] (fun i wr => ∃ k : Nat, k ≤ la.length ∧ i = .int .i64 k ∧ la.take k = lb.take k ∧ Below w.heap.size w wr) (fun i _ => la.length - (intOf i).toNat)
    case atStart => exact ⟨0, by omega, rfl, rfl, Below.refl _ _⟩
    case round =>
      obtain ⟨k, hk, rfl, hpre, hbel⟩ := hrel
      by_cases hlt : k < la.length
      · have hlt2 : k < lb.length := by have := Hhll.out; omega
        have h1 := Hha.out.below keeps_int (hbel.mono hB0)
        have h2 := Hhb.out.below keeps_int (hbel.mono hB0)
        rw [← Hhll.out] at h2
        obtain ⟨b1, o1, rfl, hb1, c1⟩ := h1.int_at hlt
        obtain ⟨b2, o2, rfl, hb2, c2⟩ := h2.int_at hlt2
        have hstep : la[k] = lb[k] → la.take (k + 1) = lb.take (k + 1) := fun h9 => by rw [List.take_succ_eq_append_getElem hlt, List.take_succ_eq_append_getElem hlt2, hpre, h9]
        have hne : la[k] ≠ lb[k] → ¬ la = lb := fun h9 h8 => h9 (by subst h8; rfl)
        generalize la[k] = x at *
        generalize lb[k] = y at *
        have Hh1 := Lib.hid h1; have Hh2 := Lib.hid h2; have Hhpre := Lib.hid hpre; have Hhstep := Lib.hid hstep; have Hhne := Lib.hid hne; clear h1 h2 hpre hstep hne
        by_cases hxy : x = y
        · have hs2 := Hhstep.out hxy
          subst hxy
          have Hhs2 := Lib.hid hs2; clear hs2
          go_wp2_with (first | (refine Go.Canon.wp_region_text mixed (by kernel_rfl) ?_) | (refine Go.Canon.chk (by rfl) ?_))
          exact ⟨⟨k + 1, by omega, by simp, Hhs2.out, hbel.drew⟩, by simp [intOf]; omega⟩
        · have hn := Hhne.out hxy
          have Hhn := Lib.hid hn; clear hn
          go_wp2_with (first | (refine Go.Canon.wp_region_text mixed (by kernel_rfl) ?_) | (refine Go.Canon.chk (by rfl) ?_))
          go_ret
          exact ⟨ret_bool (decide_eq_false Hhn.out).symm, hbel.drew⟩
      · obtain rfl : k = la.length := by omega
        have he : la = lb := by rw [List.take_length, Hhll.out, List.take_length] at hpre; exact hpre
        have Hhe := Lib.hid he; have Hhpre := Lib.hid hpre; clear he hpre
        go_wp2_with fail
        go_ret
        exact ⟨ret_bool (decide_eq_true Hhe.out).symm, hbel⟩
end Go.Proofs.YtpbdcppaiafbgaaGreat

namespace Go.Mesh
def shareB (T : List T3) (c d : Nat) : Bool := vt T (nx c) == vt T (nx d) || vt T (nx c) == vt T (pv d) || vt T (pv c) == vt T (nx d) || vt T (pv c) == vt T (pv d)
theorem shareB_iff {T : List T3} {c d : Nat} : shareB T c d = true ↔ share T c d := by
  unfold shareB share
  simp only [Bool.or_eq_true, beq_iff_eq]
  constructor
  · rintro (((h | h) | h) | h)
    · exact .inl h
    · exact .inr (.inl h)
    · exact .inr (.inr (.inl h))
    · exact .inr (.inr (.inr h))
  · rintro (h | h | h | h)
    · exact .inl (.inl (.inl h))
    · exact .inl (.inl (.inr h))
    · exact .inl (.inr h)
    · exact .inr h
theorem share_symm {T : List T3} {c d : Nat} (h : share T c d) : share T d c := by
  rcases h with h | h | h | h
  · exact .inl h.symm
  · exact .inr (.inr (.inl h.symm))
  · exact .inr (.inl h.symm)
  · exact .inr (.inr (.inr h.symm))
def stepsB (T : List T3) : List Nat → Bool
  | c :: d :: l => shareB T c d && stepsB T (d :: l)
  | _ => true
theorem steps_all {T : List T3} (P : Nat → Prop) (Q : Nat → Prop) (hs : ∀ c d, Q c → Q d → P c → share T c d → P d) : ∀ (l : List Nat), stepsB T l = true → (∀ c ∈ l, Q c) → (∃ c ∈ l, P c) → ∀ c ∈ l, P c
  | [], _, _, _, c, hc => by cases hc
  | [x], _, _, ⟨c, hc, hP⟩, d, hd => by
    have h1 : c = x := by simpa using hc
    have h2 : d = x := by simpa using hd
    rw [h2, ← h1]; exact hP
  | x :: y :: l, hst, hQ, ⟨c, hc, hP⟩, d, hd => by
    simp only [stepsB, Bool.and_eq_true] at hst
    have hxy := shareB_iff.1 hst.1
    have hQx := hQ x (by simp)
    have hQy := hQ y (by simp)
    have hQl : ∀ c ∈ y :: l, Q c := fun c hc => hQ c (List.mem_cons_of_mem _ hc)
    have hey : ∃ e ∈ y :: l, P e := by
      rcases List.mem_cons.1 hc with rfl | hc
      · exact ⟨y, by simp, hs _ _ hQx hQy hP hxy⟩
      · exact ⟨c, hc, hP⟩
    have hall := steps_all P Q hs (y :: l) hst.2 hQl hey
    rcases List.mem_cons.1 hd with rfl | hd
    · exact hs _ _ hQy hQx (hall y (by simp)) (share_symm hxy)
    · exact hall d hd
def orderAt (T : List T3) (v : Int) : List Nat := match cornerOf T v with
  | some b => runF (aft T) (begins T b).1 (3 * T.length) (begins T b).1
  | none => []
def fanB (T : List T3) (v : Int) : Bool :=
  let l := orderAt T v
  l.all (fun c => decide (c < 3 * T.length) && vt T c == v) && stepsB T l && (List.range (3 * T.length)).all fun c => vt T c != v || l.contains c
theorem fan_check {T : List T3} {v : Int} (h : fanB T v = true) : Fan T v := by
  unfold fanB at h
  simp only [Bool.and_eq_true, List.all_eq_true, decide_eq_true_eq, beq_iff_eq, Bool.or_eq_true, bne_iff_ne, List.contains_iff_mem, List.mem_range] at h
  obtain ⟨⟨h1, h2⟩, h3⟩ := h
  intro P ⟨c0, hc0, hv0, hP0⟩ hs c hc hv
  have hin : ∀ c, c < 3 * T.length → vt T c = v → c ∈ orderAt T v := fun c hc hv => by
    rcases h3 c hc with h | h
    · exact absurd hv h
    · exact h
  exact steps_all P (fun c => c < 3 * T.length ∧ vt T c = v) (fun c d hc hd => hs c d hc.1 hc.2 hd.1 hd.2) (orderAt T v) h2 h1 ⟨c0, hin c0 hc0 hv0, hP0⟩ c (hin c hc hv)
def surfB (N : Int) (T : List T3) : Bool :=
  decide (0 ≤ N) && decide (N ≤ 4096) && decide (T.length ≤ 8192) &&
  ((List.range (3 * T.length)).all fun c => decide (0 ≤ vt T c) && decide (vt T c < N) && vt T c != vt T (nx c)) &&
  ((List.range (3 * T.length)).all fun c => (List.range (3 * T.length)).all fun d => eg T c != eg T d || c == d) &&
  ((List.range T.length).all fun i => (List.range T.length).all fun j => !decide (i < j) || !((List.range 3).all fun k => (List.range 3).any fun m => vt T (3 * i + k) == vt T (3 * j + m))) &&
  ((List.range N.toNat).all fun v => ((List.range (3 * T.length)).any fun c => vt T c == (v : Int)) && fanB T v)
theorem surf_check {N : Int} {T : List T3} (h : surfB N T = true) : Surf N T := by
  unfold surfB at h
  simp only [Bool.and_eq_true, List.all_eq_true, List.any_eq_true, decide_eq_true_eq, beq_iff_eq, Bool.or_eq_true, bne_iff_ne, List.mem_range, Bool.not_eq_true'] at h
  obtain ⟨⟨⟨⟨⟨⟨h1, h2⟩, h3⟩, h4⟩, h5⟩, h6⟩, h7⟩ := h
  refine ⟨h1, h2, h3, fun c hc => ⟨(h4 c hc).1.1, (h4 c hc).1.2⟩, fun c hc => (h4 c hc).2, fun c d hc hd e => ?_, fun i j hij hj hall => ?_, fun v hv0 hv1 => ?_, fun v hv0 hv1 => ?_⟩
  · rcases h5 c hc d hd with h | h
    · exact absurd e h
    · exact h
  · rcases h6 i (by omega) j hj with h | h
    · rw [decide_eq_false_iff_not] at h; exact h hij
    · have : ((List.range 3).all fun k => (List.range 3).any fun m => vt T (3 * i + k) == vt T (3 * j + m)) = true := by
        simp only [List.all_eq_true, List.any_eq_true, List.mem_range, beq_iff_eq]
        exact hall
      rw [this] at h
      cases h
  · obtain ⟨⟨c, hc, e⟩, _⟩ := h7 v.toNat (by omega)
    exact ⟨c, hc, by rw [e]; omega⟩
  · have := (h7 v.toNat (by omega)).2
    rw [show ((v.toNat : Nat) : Int) = v by omega] at this
    exact fan_check this
end Go.Mesh

namespace Go.Mesh
def ex0 : List T3 := [(0, 2, 1), (0, 1, 3), (1, 2, 3), (2, 0, 3)]
theorem surf_ex0 : Surf 4 ex0 := surf_check (by decide +kernel)
end Go.Mesh
namespace Go.Proofs.YtpbdcppaiafbgaaGreat
open Go Go.RowKit Go.Words Go.Mesh

def Small (N : Int) (T : List T3) : Prop := T.length ≤ 40 ∧ 0 ≤ N ∧ N ≤ 60
def triVals : List T3 → List Value
  | [] => []
  | t :: T => .int .i64 t.1 :: .int .i64 t.2.1 :: .int .i64 t.2.2 :: triVals T
theorem triVals_at : ∀ (T : List T3) (i : Nat) (t : T3), T[i]? = some t → i * 3 + 3 ≤ (triVals T).length ∧ ((triVals T).drop (i * 3)).take 3 = [.int .i64 t.1, .int .i64 t.2.1, .int .i64 t.2.2]
  | [], i, t, h => by simp at h
  | x :: T, 0, t, h => by
    have : x = t := by simpa using h
    subst this
    exact ⟨by simp [triVals], by simp [triVals]⟩
  | x :: T, i + 1, t, h => by
    obtain ⟨h1, h2⟩ := triVals_at T i t (by simpa using h)
    refine ⟨by simp only [triVals, List.length_cons]; omega, ?_⟩
    rw [show (i + 1) * 3 = i * 3 + 1 + 1 + 1 by omega]
    simp only [triVals, List.drop_succ_cons]
    exact h2
theorem sl_tris {w : World} {g cap : Nat} {t : TypeId} {T : List T3} (h : Bk w g t (triVals T)) (hc : T.length ≤ cap) : Sl 3 RTri w w.heap.size (.slice (some ⟨g, 0, none⟩) T.length cap) T :=
  Sl.of_block h hc fun i a hi => triVals_at T i a hi
theorem sl_block {w : World} {g cap : Nat} {t : TypeId} {l : List Int} (h : Bk w g t (ivals l)) (hc : l.length ≤ cap) : Sl 1 RInt w w.heap.size (.slice (some ⟨g, 0, none⟩) l.length cap) l :=
  Sl.of_block h hc fun i a hi => by
    have hlt := (List.getElem?_eq_some_iff.1 hi).1
    refine ⟨by unfold ivals; rw [List.length_map]; omega, ?_⟩
    unfold RInt ivals
    rw [Nat.mul_one, List.drop_eq_getElem_cons (by simpa using hlt)]
    simp only [List.take_succ_cons, List.take_zero, List.getElem_map]
    rw [List.getElem?_eq_getElem hlt] at hi
    rw [Option.some.inj hi]
end Go.Proofs.YtpbdcppaiafbgaaGreat
