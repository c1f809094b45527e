/- Walks: the document's With, Behind, At. Walks: the document's Around. Walks: the document's Ints; the law's table. Whether given triangles are a surface can be reckoned: plain. Walks: the law's table and its example. -/
import Derived.Test.YtpbdcppaiafbgaaGreatTI
import Derived.Test.YtpbdcppaiafbgaaGreatMP
import Derived.Deep.CutBlock
import Derived.Deep.DeepCutAuto
namespace Go.Mesh
theorem dirc_none {T : List T3} {a b : Int} (h : ∀ c, c < 3 * T.length → ¬ (vt T c = a ∧ vt T (nx c) = b)) : dirc T a b = none :=
  (leastFrom_none _ _ _).2 fun c _ hc => by
    have := h c (by omega)
    simpa using this
theorem dirc_at {T : List T3} {a b : Int} {c : Nat} (hc : c < 3 * T.length) (h1 : vt T c = a ∧ vt T (nx c) = b) (h : ∀ d, d < c → ¬ (vt T d = a ∧ vt T (nx d) = b)) : dirc T a b = some c :=
  (leastFrom_some _ _ _ _).2 ⟨by omega, by omega, by simpa using h1, fun d _ hd => by
    have := h d hd
    simpa using this⟩
theorem nx_three (i k : Nat) (hk : k < 3) : nx (3 * i + k) = 3 * i + (k + 1) % 3 := by unfold nx; omega
end Go.Mesh
namespace Go.Proofs.YtpbdcppaiafbgaaGreat
open Go Go.RowKit Go.Words Go.Mesh

theorem tri_cells {w : World} {B cap : Nat} {A : Option Addr} {T : List T3} (h : Sl 3 RTri w B (.slice A T.length cap) T) {i : Nat} (hi : i < T.length) :
    ∃ b o, A = some ⟨b, o, none⟩ ∧ b < B ∧ ∀ k, k < 3 → w.cell? ⟨b, o + i * 3 + k, none⟩ = some (.int .i64 (Mesh.vt T (3 * i + k))) := by
  obtain ⟨b, o, h1, h2, h3⟩ := tri_cell h (n := 3 * i) (by omega)
  refine ⟨b, o, h1, h2, fun k hk => ?_⟩
  obtain ⟨b', o', g1, _, g3⟩ := tri_cell h (n := 3 * i + k) (by omega)
  rw [h1] at g1
  injection g1 with g1
  injection g1 with g1 g2
  subst g1; subst g2
  rw [show (3 * i + k) / 3 = i by omega, show (3 * i + k) % 3 = k by omega] at g3
  exact g3
set_option maxRecDepth 20000 in
set_option maxHeartbeats 1000000 in
theorem with_calls {w : World} {B : Nat} {sv : Value} {N : Int} {T : List T3} (hT : Sl 3 RTri w B sv T) (hB0 : B ≤ w.heap.size) (hfew : T.length ≤ 8192) (x y : Int) :
    Calls Tryz.prog 73 #[.agg #[.int .i64 N, sv], .int .i64 x, .int .i64 y] w fun e w' => e = .returned (.int .i64 (oi ((dirc T x y).map (· / 3)))) ∧ Below w.heap.size w w' := by
  obtain ⟨A, cap, rfl, hcap⟩ := hT.form
  have hbox := Bk.new w 24 [.int .i64 N, .slice A T.length cap]
  have hb1 := (Below.refl w.heap.size w).alloc (Nat.le_refl _) (.cells #[.int .i64 N, .slice A T.length cap] 24)
  have hTA := hT.below keeps_tri (hb1.mono hB0)
  generalize hw0 : w.alloc (.cells #[.int .i64 N, .slice A T.length cap] 24) = w0 at *
  have c0 := hbox.cell 0
  have c1 := hbox.cell 1
  simp only [List.getElem?_cons_zero, List.getElem?_cons_succ] at c0 c1
  have HhT := Lib.hid hT; clear hT; have HhTA := Lib.hid hTA; clear hTA; have Hhbox := Lib.hid hbox; clear hbox
  go_enter Tryz.func73, Tryz.ntmps73
  go_wp2_with fail
  clear hw0
  go_loopw [7] (fun i wr => ∃ k : Nat, k ≤ T.length ∧ i = .int .i64 k ∧ wr = w0 ∧ ∀ c, c < 3 * k → ¬ (Mesh.vt T c = x ∧ Mesh.vt T (nx c) = y)) (fun i _ => T.length - (intOf i).toNat)
  case atStart => exact ⟨0, by omega, rfl, rfl, fun c hc => by omega⟩
  case round =>
    obtain ⟨k, hk, rfl, hw9, hno⟩ := hrel
    have hw9 := hw9.symm
    subst hw9
    have Hhno := Lib.hid hno; clear hno
    by_cases hlt : k < T.length
    · obtain ⟨b, o, rfl, hb, hcell⟩ := tri_cells HhTA.out hlt
      have hbw : b < w0.heap.size := by have := hb1.size; omega
      have Hhcell := Lib.hid hcell; clear hcell
      go_wp2_with fail
      go_loopw [8] (fun j wr => ∃ m : Nat, m ≤ 3 ∧ j = .int .i64 m ∧ wr = w0 ∧ ∀ c, c < 3 * k + m → ¬ (Mesh.vt T c = x ∧ Mesh.vt T (nx c) = y)) (fun j _ => 3 - (intOf j).toNat)
      case atStart => exact ⟨0, by omega, rfl, rfl, fun c hc => Hhno.out c (by omega)⟩
      case round =>
        obtain ⟨m, hm, rfl, hw9, hno2⟩ := hrel
        have hw9 := hw9.symm
        subst hw9
        by_cases hm3 : m < 3
        · have hc2 := Hhcell.out m hm3
          have hc3 := Hhcell.out ((m + 1) % 3) (by omega)
          rw [← nx_three k m hm3] at hc3
          have hstep : ¬ (Mesh.vt T (3 * k + m) = x ∧ Mesh.vt T (nx (3 * k + m)) = y) → ∀ c, c < 3 * k + (m + 1) → ¬ (Mesh.vt T c = x ∧ Mesh.vt T (nx c) = y) := by
            intro h8 c hc
            by_cases h7 : c = 3 * k + m
            · rw [h7]; exact h8
            · exact hno2 c (by omega)
          have hat : Mesh.vt T (3 * k + m) = x ∧ Mesh.vt T (nx (3 * k + m)) = y → oi ((dirc T x y).map (· / 3)) = (k : Int) := by
            intro h8
            rw [dirc_at (by omega) h8 hno2]
            show (((3 * k + m) / 3 : Nat) : Int) = k
            omega
          generalize Mesh.vt T (3 * k + m) = p at *
          generalize Mesh.vt T (nx (3 * k + m)) = q at *
          have Hhno2 := Lib.hid hno2; clear hno2; have Hhstep := Lib.hid hstep; clear hstep; have Hhat := Lib.hid hat; clear hat
          by_cases hp : p = x
          · by_cases hq : q = y
            · go_wp2_with fail
              go_ret
              exact ⟨ret_int (Hhat.out ⟨hp, hq⟩).symm, hb1⟩
            · go_wp2_with fail
              exact ⟨⟨m + 1, by omega, by simp, trivial, Hhstep.out fun h9 => hq h9.2⟩, by simp [intOf]; omega⟩
          · go_wp2_with fail
            exact ⟨⟨m + 1, by omega, by simp, trivial, Hhstep.out fun h9 => hp h9.1⟩, by simp [intOf]; omega⟩
        · have hm4 : m = 3 := by omega
          subst hm4
          have Hhno2 := Lib.hid hno2; clear hno2
          go_wp2_with fail
          exact ⟨⟨k + 1, by omega, by simp, trivial, fun c hc => Hhno2.out c (by omega)⟩, by simp [intOf]; omega⟩
    · have hkl : k = T.length := by omega
      subst hkl
      have hd : oi ((dirc T x y).map (· / 3)) = -1 := by rw [dirc_none Hhno.out]; rfl
      have Hhd := Lib.hid hd; clear hd
      go_wp2_with fail
      go_ret
      exact ⟨ret_int Hhd.out.symm, hb1⟩

end Go.Proofs.YtpbdcppaiafbgaaGreat

namespace Go.Mesh
end Go.Mesh
namespace Go.Proofs.YtpbdcppaiafbgaaGreat
open Go Go.RowKit Go.Words Go.Mesh

theorem sl_nvals {w : World} {base : Nat} {v : Value} {l : List Nat} (h : w.ownsRow base 3 1 v l.length (nvals l)) : Sl 1 RInt w w.heap.size v (l.map fun n : Nat => (n : Int)) := by
  refine Sl.of_own (base := base) (e := 3) (xs := nvals l) (by rw [List.length_map]; exact h) fun i a hi => ?_
  rw [List.getElem?_map] at hi
  unfold RInt
  obtain ⟨x, hx, rfl⟩ := Option.map_eq_some_iff.1 hi
  have hlt := (List.getElem?_eq_some_iff.1 hx).1
  unfold nvals
  rw [Nat.mul_one, List.drop_eq_getElem_cons (by simpa using hlt)]
  simp only [List.take_succ_cons, List.take_zero, List.getElem_map]
  rw [List.getElem?_eq_getElem hlt] at hx
  rw [Option.some.inj hx]
theorem own_nat_at {w : World} {base g n cap : Nat} {l : List Nat} (h : w.ownsRow base 3 1 (.slice (some ⟨g, 0, none⟩) n cap) n (nvals l)) (hl : l.length = n) {i : Nat} (hi : i < l.length) :
    w.cell? ⟨g, i, none⟩ = some (.int .i64 (l[i] : Int)) ∧ g < w.heap.size ∧ base ≤ g := by
  have hb := h.lt g rfl
  subst hl
  have hs := sl_nvals h
  have hlen : (l.map fun n : Nat => (n : Int)).length = l.length := List.length_map _
  obtain ⟨b, o, cs, h1, h2, h3, h4, h5⟩ := Sl.at_ hs (List.getElem?_eq_getElem (l := l.map fun n : Nat => (n : Int)) (i := i) (by omega))
  injection h1 with h1
  injection h1 with h1 h6
  subst h1; subst h6
  unfold RInt at h4
  subst h4
  refine ⟨?_, hb.2, hb.1⟩
  have := h5 0 _ rfl
  simpa using this
theorem own_one {w : World} {base : Nat} {e : TypeId} (x : Value) (hb : base ≤ w.heap.size) : (w.alloc (.cells #[x] e)).ownsRow base e 1 (.slice (some ⟨w.heap.size, 0, none⟩) 1 1) 1 [x] :=
  ⟨rfl, .inr ⟨w.heap.size, 1, #[x], rfl, hb, heap_alloc_new w _, Nat.le_refl _, by unfold maxLen; omega, rfl, rfl⟩⟩
end Go.Proofs.YtpbdcppaiafbgaaGreat

namespace Go.Proofs.YtpbdcppaiafbgaaGreat
open Go Go.RowKit Go.Words Go.Mesh

theorem sl_ivals {w : World} {base : Nat} {v : Value} {l : List Int} (h : w.ownsRow base 3 1 v l.length (ivals l)) : Sl 1 RInt w w.heap.size v l := by
  refine Sl.of_own (base := base) (e := 3) (xs := ivals l) h fun i a hi => ?_
  unfold RInt
  have hlt := (List.getElem?_eq_some_iff.1 hi).1
  unfold ivals
  rw [Nat.mul_one, List.drop_eq_getElem_cons (by simpa using hlt)]
  simp only [List.take_succ_cons, List.take_zero, List.getElem_map]
  rw [List.getElem?_eq_getElem hlt] at hi
  rw [Option.some.inj hi]
set_option maxRecDepth 20000 in
set_option maxHeartbeats 1000000 in
theorem ints_calls {w : World} {B : Nat} {va vb : Value} {la lb : List Int} (ha : Sl 1 RInt w B va la) (hb : Sl 1 RInt w B vb lb) (hB0 : B ≤ w.heap.size) (hla : la.length ≤ 1000000) :
    Calls Tryz.prog 24 #[va, vb] w fun e w' => e = .returned (.bool (decide (la = lb))) ∧ Below w.heap.size w w' := by
  obtain ⟨A, cap, rfl, hcap⟩ := ha.form
  obtain ⟨C, cap2, rfl, hcap2⟩ := hb.form
  by_cases hll : la.length = lb.length
  case neg =>
    rw [decide_eq_false (fun h9 => hll (by rw [h9]))]
    have hll1 : (la.length : Int) ≠ (lb.length : Int) := by omega
    have Hha := Lib.hid ha; have Hhb := Lib.hid hb; clear ha hb
    go_enter Tryz.func24, Tryz.ntmps24
    go_wp2
    go_ret
    exact ⟨rfl, Below.refl _ _⟩
  case pos =>
    have hll1 : (la.length : Int) = (lb.length : Int) := by omega
    rw [← hll] at hcap2 ⊢
    have Hha := Lib.hid ha; have Hhb := Lib.hid hb; have Hhll := Lib.hid hll; have Hhll1 := Lib.hid hll1; clear ha hb hll hll1
    go_enter Tryz.func24, Tryz.ntmps24
    go_wp2_with fail
    go_loopw [5] (fun i wr => ∃ k : Nat, k ≤ la.length ∧ i = .int .i64 k ∧ la.take k = lb.take k ∧ Below w.heap.size w wr) (fun i _ => la.length - (intOf i).toNat)
    case atStart => exact ⟨0, by omega, rfl, rfl, Below.refl _ _⟩
    case round =>
      obtain ⟨k, hk, rfl, hpre, hbel⟩ := hrel
      by_cases hlt : k < la.length
      · have hlt2 : k < lb.length := by have := Hhll.out; omega
        have h1 := Hha.out.below keeps_int (hbel.mono hB0)
        have h2 := Hhb.out.below keeps_int (hbel.mono hB0)
        rw [← Hhll.out] at h2
        obtain ⟨b1, o1, rfl, hb1, c1⟩ := h1.int_at hlt
        obtain ⟨b2, o2, rfl, hb2, c2⟩ := h2.int_at hlt2
        have hstep : la[k] = lb[k] → la.take (k + 1) = lb.take (k + 1) := fun h9 => by rw [List.take_succ_eq_append_getElem hlt, List.take_succ_eq_append_getElem hlt2, hpre, h9]
        have hne : la[k] ≠ lb[k] → ¬ la = lb := fun h9 h8 => h9 (by subst h8; rfl)
        generalize la[k] = x at *
        generalize lb[k] = y at *
        have Hh1 := Lib.hid h1; have Hh2 := Lib.hid h2; have Hhpre := Lib.hid hpre; have Hhstep := Lib.hid hstep; have Hhne := Lib.hid hne; clear h1 h2 hpre hstep hne
        by_cases hxy : x = y
        · have hs2 := Hhstep.out hxy
          subst hxy
          have Hhs2 := Lib.hid hs2; clear hs2
          go_wp2_with (first | (refine Go.Canon.wp_region_text mixed (by kernel_rfl) ?_) | (refine Go.Canon.chk (by rfl) ?_))
          exact ⟨⟨k + 1, by omega, by simp, Hhs2.out, hbel.drew⟩, by simp [intOf]; omega⟩
        · have hn := Hhne.out hxy
          have Hhn := Lib.hid hn; clear hn
          go_wp2_with (first | (refine Go.Canon.wp_region_text mixed (by kernel_rfl) ?_) | (refine Go.Canon.chk (by rfl) ?_))
          go_ret
          exact ⟨ret_bool (decide_eq_false Hhn.out).symm, hbel.drew⟩
      · obtain rfl : k = la.length := by omega
        have he : la = lb := by rw [List.take_length, Hhll.out, List.take_length] at hpre; exact hpre
        have Hhe := Lib.hid he; have Hhpre := Lib.hid hpre; clear he hpre
        go_wp2_with fail
        go_ret
        exact ⟨ret_bool (decide_eq_true Hhe.out).symm, hbel⟩
end Go.Proofs.YtpbdcppaiafbgaaGreat

namespace Go.Mesh
def shareB (T : List T3) (c d : Nat) : Bool := vt T (nx c) == vt T (nx d) || vt T (nx c) == vt T (pv d) || vt T (pv c) == vt T (nx d) || vt T (pv c) == vt T (pv d)
theorem shareB_iff {T : List T3} {c d : Nat} : shareB T c d = true ↔ share T c d := by
  unfold shareB share
  simp only [Bool.or_eq_true, beq_iff_eq]
  constructor
  · rintro (((h | h) | h) | h)
    · exact .inl h
    · exact .inr (.inl h)
    · exact .inr (.inr (.inl h))
    · exact .inr (.inr (.inr h))
  · rintro (h | h | h | h)
    · exact .inl (.inl (.inl h))
    · exact .inl (.inl (.inr h))
    · exact .inl (.inr h)
    · exact .inr h
theorem share_symm {T : List T3} {c d : Nat} (h : share T c d) : share T d c := by
  rcases h with h | h | h | h
  · exact .inl h.symm
  · exact .inr (.inr (.inl h.symm))
  · exact .inr (.inl h.symm)
  · exact .inr (.inr (.inr h.symm))
def stepsB (T : List T3) : List Nat → Bool
  | c :: d :: l => shareB T c d && stepsB T (d :: l)
  | _ => true
theorem steps_all {T : List T3} (P : Nat → Prop) (Q : Nat → Prop) (hs : ∀ c d, Q c → Q d → P c → share T c d → P d) : ∀ (l : List Nat), stepsB T l = true → (∀ c ∈ l, Q c) → (∃ c ∈ l, P c) → ∀ c ∈ l, P c
  | [], _, _, _, c, hc => by cases hc
  | [x], _, _, ⟨c, hc, hP⟩, d, hd => by
    have h1 : c = x := by simpa using hc
    have h2 : d = x := by simpa using hd
    rw [h2, ← h1]; exact hP
  | x :: y :: l, hst, hQ, ⟨c, hc, hP⟩, d, hd => by
    simp only [stepsB, Bool.and_eq_true] at hst
    have hxy := shareB_iff.1 hst.1
    have hQx := hQ x (by simp)
    have hQy := hQ y (by simp)
    have hQl : ∀ c ∈ y :: l, Q c := fun c hc => hQ c (List.mem_cons_of_mem _ hc)
    have hey : ∃ e ∈ y :: l, P e := by
      rcases List.mem_cons.1 hc with rfl | hc
      · exact ⟨y, by simp, hs _ _ hQx hQy hP hxy⟩
      · exact ⟨c, hc, hP⟩
    have hall := steps_all P Q hs (y :: l) hst.2 hQl hey
    rcases List.mem_cons.1 hd with rfl | hd
    · exact hs _ _ hQy hQx (hall y (by simp)) (share_symm hxy)
    · exact hall d hd
/-- The corners at a vertex, in an order in which each shares a vertex with the next. -/
def orderAt (T : List T3) (v : Int) : List Nat := match cornerOf T v with
  | some b => runF (aft T) (begins T b).1 (3 * T.length) (begins T b).1
  | none => []
def fanB (T : List T3) (v : Int) : Bool :=
  let l := orderAt T v
  l.all (fun c => decide (c < 3 * T.length) && vt T c == v) && stepsB T l && (List.range (3 * T.length)).all fun c => vt T c != v || l.contains c
theorem fan_check {T : List T3} {v : Int} (h : fanB T v = true) : Fan T v := by
  unfold fanB at h
  simp only [Bool.and_eq_true, List.all_eq_true, decide_eq_true_eq, beq_iff_eq, Bool.or_eq_true, bne_iff_ne, List.contains_iff_mem, List.mem_range] at h
  obtain ⟨⟨h1, h2⟩, h3⟩ := h
  intro P ⟨c0, hc0, hv0, hP0⟩ hs c hc hv
  have hin : ∀ c, c < 3 * T.length → vt T c = v → c ∈ orderAt T v := fun c hc hv => by
    rcases h3 c hc with h | h
    · exact absurd hv h
    · exact h
  exact steps_all P (fun c => c < 3 * T.length ∧ vt T c = v) (fun c d hc hd => hs c d hc.1 hc.2 hd.1 hd.2) (orderAt T v) h2 h1 ⟨c0, hin c0 hc0 hv0, hP0⟩ c (hin c hc hv)
def surfB (N : Int) (T : List T3) : Bool :=
  decide (0 ≤ N) && decide (N ≤ 4096) && decide (T.length ≤ 8192) &&
  ((List.range (3 * T.length)).all fun c => decide (0 ≤ vt T c) && decide (vt T c < N) && vt T c != vt T (nx c)) &&
  ((List.range (3 * T.length)).all fun c => (List.range (3 * T.length)).all fun d => eg T c != eg T d || c == d) &&
  ((List.range T.length).all fun i => (List.range T.length).all fun j => !decide (i < j) || !((List.range 3).all fun k => (List.range 3).any fun m => vt T (3 * i + k) == vt T (3 * j + m))) &&
  ((List.range N.toNat).all fun v => ((List.range (3 * T.length)).any fun c => vt T c == (v : Int)) && fanB T v)
theorem surf_check {N : Int} {T : List T3} (h : surfB N T = true) : Surf N T := by
  unfold surfB at h
  simp only [Bool.and_eq_true, List.all_eq_true, List.any_eq_true, decide_eq_true_eq, beq_iff_eq, Bool.or_eq_true, bne_iff_ne, List.mem_range, Bool.not_eq_true'] at h
  obtain ⟨⟨⟨⟨⟨⟨h1, h2⟩, h3⟩, h4⟩, h5⟩, h6⟩, h7⟩ := h
  refine ⟨h1, h2, h3, fun c hc => ⟨(h4 c hc).1.1, (h4 c hc).1.2⟩, fun c hc => (h4 c hc).2, fun c d hc hd e => ?_, fun i j hij hj hall => ?_, fun v hv0 hv1 => ?_, fun v hv0 hv1 => ?_⟩
  · rcases h5 c hc d hd with h | h
    · exact absurd e h
    · exact h
  · rcases h6 i (by omega) j hj with h | h
    · rw [decide_eq_false_iff_not] at h; exact h hij
    · have : ((List.range 3).all fun k => (List.range 3).any fun m => vt T (3 * i + k) == vt T (3 * j + m)) = true := by
        simp only [List.all_eq_true, List.any_eq_true, List.mem_range, beq_iff_eq]
        exact hall
      rw [this] at h
      cases h
  · obtain ⟨⟨c, hc, e⟩, _⟩ := h7 v.toNat (by omega)
    exact ⟨c, hc, by rw [e]; omega⟩
  · have := (h7 v.toNat (by omega)).2
    rw [show ((v.toNat : Nat) : Int) = v by omega] at this
    exact fan_check this
end Go.Mesh

namespace Go.Mesh
def ex0 : List T3 := [(0, 2, 1), (0, 1, 3), (1, 2, 3), (2, 0, 3)]
theorem surf_ex0 : Surf 4 ex0 := surf_check (by decide +kernel)
end Go.Mesh
namespace Go.Proofs.YtpbdcppaiafbgaaGreat
open Go Go.RowKit Go.Words Go.Mesh

/-- What is looked at. -/
def Small (N : Int) (T : List T3) : Prop := T.length ≤ 40 ∧ 0 ≤ N ∧ N ≤ 60
def triVals : List T3 → List Value
  | [] => []
  | t :: T => .int .i64 t.1 :: .int .i64 t.2.1 :: .int .i64 t.2.2 :: triVals T
theorem triVals_at : ∀ (T : List T3) (i : Nat) (t : T3), T[i]? = some t → i * 3 + 3 ≤ (triVals T).length ∧ ((triVals T).drop (i * 3)).take 3 = [.int .i64 t.1, .int .i64 t.2.1, .int .i64 t.2.2]
  | [], i, t, h => by simp at h
  | x :: T, 0, t, h => by
    have : x = t := by simpa using h
    subst this
    exact ⟨by simp [triVals], by simp [triVals]⟩
  | x :: T, i + 1, t, h => by
    obtain ⟨h1, h2⟩ := triVals_at T i t (by simpa using h)
    refine ⟨by simp only [triVals, List.length_cons]; omega, ?_⟩
    rw [show (i + 1) * 3 = i * 3 + 1 + 1 + 1 by omega]
    simp only [triVals, List.drop_succ_cons]
    exact h2
theorem sl_tris {w : World} {g cap : Nat} {t : TypeId} {T : List T3} (h : Bk w g t (triVals T)) (hc : T.length ≤ cap) : Sl 3 RTri w w.heap.size (.slice (some ⟨g, 0, none⟩) T.length cap) T :=
  Sl.of_block h hc fun i a hi => triVals_at T i a hi
theorem sl_block {w : World} {g cap : Nat} {t : TypeId} {l : List Int} (h : Bk w g t (ivals l)) (hc : l.length ≤ cap) : Sl 1 RInt w w.heap.size (.slice (some ⟨g, 0, none⟩) l.length cap) l :=
  Sl.of_block h hc fun i a hi => by
    have hlt := (List.getElem?_eq_some_iff.1 hi).1
    refine ⟨by unfold ivals; rw [List.length_map]; omega, ?_⟩
    unfold RInt ivals
    rw [Nat.mul_one, List.drop_eq_getElem_cons (by simpa using hlt)]
    simp only [List.take_succ_cons, List.take_zero, List.getElem_map]
    rw [List.getElem?_eq_getElem hlt] at hi
    rw [Option.some.inj hi]
end Go.Proofs.YtpbdcppaiafbgaaGreat
