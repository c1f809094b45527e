/- Plain: ref15's fans; no program in sight. Walk: ref15.Fan: of a vertex's triangles how many there are, and how many are reached from one of them. Walks: ref15's V, Next, Prev, Facing; ref20's border, twice. -/
import Derived.Test.YtpbdcppaiafbgaaGreatBM
import Derived.Test.YtpbdcppaiafbgaaGreatEH
import Derived.Test.YtpbdcppaiafbgaaGreatBY
import Derived.Test.YtpbdcppaiafbgaaGreatFL
namespace Go.Mesh
def inN (a b : T3) : Nat → Nat
  | 0 => 0
  | k + 1 => inN a b k + if haB b (if k = 0 then a.1 else if k = 1 then a.2.1 else a.2.2) = true then 1 else 0
def be15 (a b : T3) : Bool := decide (2 ≤ inN a b 3)
theorem be15_iff {a b : T3} {v : Int} (h3 : Three a) (ha : haB a v = true) (hb : haB b v = true) : be15 a b = adB v a b := by
  rw [Bool.eq_iff_iff, adB_iff]
  obtain ⟨x, y, z⟩ := a
  have hd : x ≠ y ∧ y ≠ z ∧ z ≠ x := h3
  obtain ⟨d1, d2, d3⟩ := hd
  have hv : v = x ∨ v = y ∨ v = z := by
    have := haB_iff.1 ha
    exact this
  have e : inN (x, y, z) b 3 = (if haB b x = true then 1 else 0) + (if haB b y = true then 1 else 0) + (if haB b z = true then 1 else 0) := by
    simp [inN]
  unfold be15
  rw [decide_eq_true_eq, e]
  constructor
  · intro h
    rcases hv with rfl | rfl | rfl
    · rw [if_pos hb] at h
      by_cases hy : haB b y = true
      · exact ⟨y, fun e => d1 e.symm, .inr (.inl rfl), haB_iff.1 hy⟩
      · by_cases hz : haB b z = true
        · exact ⟨z, d3, .inr (.inr rfl), haB_iff.1 hz⟩
        · rw [if_neg hy, if_neg hz] at h; omega
    · rw [if_pos hb] at h
      by_cases hx : haB b x = true
      · exact ⟨x, d1, .inl rfl, haB_iff.1 hx⟩
      · by_cases hz : haB b z = true
        · exact ⟨z, fun e => d2 e.symm, .inr (.inr rfl), haB_iff.1 hz⟩
        · rw [if_neg hx, if_neg hz] at h; omega
    · rw [if_pos hb] at h
      by_cases hx : haB b x = true
      · exact ⟨x, fun e => d3 e.symm, .inl rfl, haB_iff.1 hx⟩
      · by_cases hy : haB b y = true
        · exact ⟨y, d2, .inr (.inl rfl), haB_iff.1 hy⟩
        · rw [if_neg hx, if_neg hy] at h; omega
  · rintro ⟨u, huv, hua, hub⟩
    have hub := haB_iff.2 hub
    have hua : u = x ∨ u = y ∨ u = z := hua
    rcases hv with rfl | rfl | rfl <;> rcases hua with rfl | rfl | rfl <;> first | exact absurd rfl huv | (rw [hb, hub]; simp; try omega)
def mk15 (l : List Nat) (W : List Bool) : List Bool := l.map fun i => W.getD i false
theorem mk15_set {l : List Nat} {W : List Bool} (hn : l.Nodup) {k i : Nat} (hk : l[k]? = some i) (hi : i < W.length) : mk15 l (W.set i true) = (mk15 l W).set k true := by
  obtain ⟨hkl, hki⟩ := List.getElem?_eq_some_iff.1 hk
  unfold mk15
  apply List.ext_getElem?
  intro j
  rw [List.getElem?_set, List.getElem?_map, List.getElem?_map]
  by_cases hjk : k = j
  · subst hjk
    rw [if_pos rfl, hk, if_pos (by rw [List.length_map]; exact hkl)]
    simp [List.getElem?_set, hi]
  · rw [if_neg hjk]
    cases hj : l[j]? with
    | none => rfl
    | some i' =>
      obtain ⟨hjl, hji⟩ := List.getElem?_eq_some_iff.1 hj
      have hne : i ≠ i' := fun e => hjk ((List.getElem_inj (h₀ := hkl) (h₁ := hjl) hn).1 (by rw [hki, hji, e]))
      simp [List.getElem?_set, hne]
theorem mk15_at {l : List Nat} {W : List Bool} {k i : Nat} (hk : l[k]? = some i) : (mk15 l W)[k]? = some (W.getD i false) := by
  unfold mk15; rw [List.getElem?_map, hk]; rfl
theorem mk15_none (l : List Nat) (n : Nat) : mk15 l (List.replicate n false) = List.replicate l.length false := by
  unfold mk15
  apply List.ext_getElem?
  intro j
  rw [List.getElem?_map, List.getElem?_replicate]
  cases hj : l[j]? with
  | none => rw [if_neg (by have := List.getElem?_eq_none_iff.1 hj; omega)]; rfl
  | some i =>
    rw [if_pos (List.getElem?_eq_some_iff.1 hj).1]
    simp [List.getElem?_replicate]
    split <;> rfl
theorem count_all : ∀ M : List Bool, M.count true = M.length ↔ ∀ k, k < M.length → M[k]? = some true
  | [] => by simp
  | b :: M => by
    have ih := count_all M
    have hle : M.count true ≤ M.length := List.count_le_length
    rw [List.count_cons, List.length_cons]
    constructor
    · intro h k hk
      have hb : b = true := by
        cases b with
        | true => rfl
        | false => simp at h; omega
      subst hb
      have hM : M.count true = M.length := by simp at h; exact h
      cases k with
      | zero => rfl
      | succ k => exact ih.1 hM k (by omega)
    · intro h
      have h0 : b = true := by
        have := h 0 (by omega)
        simpa using this
      subst h0
      have := ih.2 fun k hk => by have := h (k + 1) (by omega); simpa using this
      simp [this]
theorem vs_symm {t u : T3} (ht : Three t) (hu : Three u) : vsB t u = vsB u t := by
  obtain ⟨a, b, c⟩ := t
  obtain ⟨x, y, z⟩ := u
  have h1 : a ≠ b ∧ b ≠ c ∧ c ≠ a := ht
  have h2 : x ≠ y ∧ y ≠ z ∧ z ≠ x := hu
  unfold vsB haB
  rw [Bool.eq_iff_iff]
  simp only [Bool.and_eq_true, Bool.or_eq_true, beq_iff_eq]
  omega
def NoP15 (T : List T3) (n : Nat) : Prop := ∀ b a, b < n → a < b → twB (triAt T a) (triAt T b) = false ∧ vsB (triAt T b) (triAt T a) = false
theorem is15_iff {N : Int} {T : List T3} (hlen : T.length ≤ 8192) : Surf N T ↔ Idx N T ∧ G2 T ∧ NoP15 T T.length ∧ ∀ u : Nat, (u : Int) < N → T.filter (haB · (u : Int)) ≠ [] ∧ Cn (T.filter (haB · (u : Int))) u := by
  rw [surf_iff hlen]
  constructor
  · rintro ⟨h1, h2, h3, h4, h5, h6⟩
    refine ⟨h1, h2, fun b a hb hab => ⟨h3 b a hb hab, ?_⟩, fun u hu => ?_⟩
    · rw [vs_symm (h2 b hb) (h2 a (by omega))]
      exact h4 b a hb hab
    · obtain ⟨i, hi, hh⟩ := h5 u hu
      have hne : T.filter (haB · (u : Int)) ≠ [] := fun e => by
        have := List.filter_eq_nil_iff.1 e (triAt T i) (triAt_mem hi)
        exact this hh
      exact ⟨hne, (h6 u hu).resolve_left hne⟩
  · rintro ⟨h1, h2, h3, h4⟩
    refine ⟨h1, h2, fun b a hb hab => (h3 b a hb hab).1, fun b a hb hab => ?_, fun u hu => ?_, fun u hu => .inr (h4 u hu).2⟩
    · rw [vs_symm (h2 a (by omega)) (h2 b hb)]
      exact (h3 b a hb hab).2
    · obtain ⟨t, ht⟩ := List.exists_mem_of_ne_nil _ (h4 u hu).1
      obtain ⟨h5, h6⟩ := List.mem_filter.1 ht
      obtain ⟨i, hi, rfl⟩ := mem_triAt h5
      exact ⟨i, hi, h6⟩
end Go.Mesh

namespace Go.Proofs.YtpbdcppaiafbgaaGreat
open Go Go.RowKit Go.Words Go.Mesh

set_option maxRecDepth 20000 in
set_option maxHeartbeats 1000000 in
theorem beside15_calls (a b : T3) (w : World) :
    Calls Tryz.prog 163 #[triV a, triV b] w fun e w' => e = .returned (.bool (be15 a b)) ∧ Below w.heap.size w w' := by
  have hha := fun v wz => has15_calls b v wz
  obtain ⟨x, y, z⟩ := a
  obtain ⟨p, q, r⟩ := b
  have hstep : ∀ k, inN (x, y, z) (p, q, r) (k + 1) = inN (x, y, z) (p, q, r) k + if haB (p, q, r) (if k = 0 then x else if k = 1 then y else z) = true then 1 else 0 := fun k => rfl
  have hbe : be15 (x, y, z) (p, q, r) = decide (2 ≤ inN (x, y, z) (p, q, r) 3) := rfl
  have hle : ∀ k, inN (x, y, z) (p, q, r) k ≤ k := fun k => by
    induction k with
    | zero => exact Nat.le_refl 0
    | succ k ih =>
      have hb9 : ∀ b : Bool, (if b = true then 1 else 0) ≤ 1 := fun b => by cases b <;> decide
      rw [hstep]
      exact Nat.add_le_add ih (hb9 _)
  have hk1 := Bk.new w 57 [.int .i64 x, .int .i64 y, .int .i64 z]
  have hk2 := hk1.alloc (.cells #[.int .i64 p, .int .i64 q, .int .i64 r] 57)
  have hk3 := Bk.new' (n := w.heap.size + 1) (w := w.alloc (.cells #[.int .i64 x, .int .i64 y, .int .i64 z] 57)) 57 [.int .i64 p, .int .i64 q, .int .i64 r] (by simp)
  have hb1 := ((Below.refl w.heap.size w).alloc (Nat.le_refl _) (.cells #[.int .i64 x, .int .i64 y, .int .i64 z] 57)).alloc (by simp) (.cells #[.int .i64 p, .int .i64 q, .int .i64 r] 57)
  have h0 : inN (x, y, z) (p, q, r) 0 = 0 := rfl
  simp only [triV] at hha ⊢
  rw [hbe]
  generalize inN (x, y, z) (p, q, r) = F at *
  have Hhha := Lib.hid hha; clear hha; have Hhstep := Lib.hid hstep; clear hstep; have Hhle := Lib.hid hle; clear hle; have Hhk1 := Lib.hid hk1; clear hk1; have Hhk2 := Lib.hid hk2; clear hk2; have Hhk3 := Lib.hid hk3; clear hk3; have Hhb1 := Lib.hid hb1; clear hb1; have Hh0 := Lib.hid h0; clear h0; have Hhbe := Lib.hid hbe; clear hbe
  go_enter Tryz.func163, Tryz.ntmps163
  go_wp2_with fail
  go_loopw [5, 6] (fun nv iv wr => ∃ k : Nat, k ≤ 3 ∧ nv = .int .i64 (F k : Nat) ∧ iv = .int .i64 (k : Int) ∧ Bk wr w.heap.size 57 [.int .i64 x, .int .i64 y, .int .i64 z] ∧ Bk wr (w.heap.size + 1) 57 [.int .i64 p, .int .i64 q, .int .i64 r] ∧ Below w.heap.size w wr) (fun _ iv _ => 3 - (intOf iv).toNat)
  case atStart => exact ⟨0, by omega, by rw [Hh0.out]; rfl, rfl, Hhk2.out, Hhk3.out, Hhb1.out⟩
  case round =>
    obtain ⟨k, hk, rfl, rfl, k2, k3, hbel⟩ := hrel
    have z0 := k3.cell 0
    have z1 := k3.cell 1
    have z2 := k3.cell 2
    simp only [List.getElem?_cons_zero, List.getElem?_cons_succ] at z0 z1 z2
    by_cases hk3 : k < 3
    · have hki : (k : Int) < 3 := by omega
      have ck : wr.cell? ⟨w.heap.size, k, none⟩ = some (.int .i64 (if k = 0 then x else if k = 1 then y else z)) := by
        rw [k2.cell k]
        have : k = 0 ∨ k = 1 ∨ k = 2 := by omega
        rcases this with rfl | rfl | rfl <;> rfl
      have hst := Hhstep.out k
      have hF := Hhle.out k
      have hcall := Hhha.out (if k = 0 then x else if k = 1 then y else z) wr.drew
      generalize (if k = 0 then x else if k = 1 then y else z) = v at *
      have hb0 := hbel.drew
      have m2 := fun W (hW : Below wr.drew.heap.size wr.drew W) => k2.drew.below hW k2.drew.lt
      have m3 := fun W (hW : Below wr.drew.heap.size wr.drew W) => k3.drew.below hW k3.drew.lt
      cases hv : haB (p, q, r) v with
      | false =>
        rw [hv] at hst hcall
        have hst : F (k + 1) = F k := by simpa using hst
        have Hhst := Lib.hid hst; clear hst; have Hhcall := Lib.hid hcall; clear hcall; have Hhv := Lib.hid hv; clear hv; have Hk2 := Lib.hid k2; clear k2; have Hk3 := Lib.hid k3; clear k3; have Hm2 := Lib.hid m2; clear m2; have Hm3 := Lib.hid m3; clear m3
        go_wp2_with fail
        refine Go.Canon.wp_region_text mixed (by kernel_rfl) ?_
        go_wp2_with fail
        refine Hhcall.out.mono ?_
        rintro e w1 ⟨rfl, hb2⟩
        have n2 := Hm2.out w1 hb2
        have n3 := Hm3.out w1 hb2
        have hb3 := hb0.trans (hb2.mono hb0.size)
        have Hn2 := Lib.hid n2; clear n2; have Hn3 := Lib.hid n3; clear n3
        go_wp2_with fail
        refine Go.Canon.chk (by rfl) ?_
        go_wp2_with fail
        exact ⟨⟨k + 1, by omega, by rw [Hhst.out], by simp, Hn2.out, Hn3.out, hb3⟩, by simp [intOf]; omega⟩
      | true =>
        rw [hv] at hst hcall
        have hst : F (k + 1) = F k + 1 := by simpa using hst
        have Hhst := Lib.hid hst; clear hst; have Hhcall := Lib.hid hcall; clear hcall; have Hhv := Lib.hid hv; clear hv; have Hk2 := Lib.hid k2; clear k2; have Hk3 := Lib.hid k3; clear k3; have Hm2 := Lib.hid m2; clear m2; have Hm3 := Lib.hid m3; clear m3
        go_wp2_with fail
        refine Go.Canon.wp_region_text mixed (by kernel_rfl) ?_
        go_wp2_with fail
        refine Hhcall.out.mono ?_
        rintro e w1 ⟨rfl, hb2⟩
        have n2 := Hm2.out w1 hb2
        have n3 := Hm3.out w1 hb2
        have hb3 := hb0.trans (hb2.mono hb0.size)
        have Hn2 := Lib.hid n2; clear n2; have Hn3 := Lib.hid n3; clear n3
        go_wp2_with fail
        refine Go.Canon.chk (by rfl) ?_
        go_wp2_with fail
        exact ⟨⟨k + 1, by omega, by rw [Hhst.out]; simp, by simp, Hn2.out, Hn3.out, hb3⟩, by simp [intOf]; omega⟩
    · obtain rfl : k = 3 := by omega
      have Hk2 := Lib.hid k2; clear k2; have Hk3 := Lib.hid k3; clear k3
      go_wp2_with fail
      go_ret
      exact ⟨ret_bool (by rw [decide_eq_decide]; omega), hbel⟩
end Go.Proofs.YtpbdcppaiafbgaaGreat
namespace Go.Mesh
def fanL (T : List T3) (v : Int) (k : Nat) : List Nat := (List.range k).filter fun i => haB (triAt T i) v
theorem fanL_succ (T : List T3) (v : Int) (k : Nat) : fanL T v (k + 1) = fanL T v k ++ if haB (triAt T k) v then [k] else [] := by
  unfold fanL
  rw [List.range_succ, List.filter_append, List.filter_cons, List.filter_nil]
theorem fanL_all (T : List T3) (v : Int) : T.filter (haB · v) = (fanL T v T.length).map (triAt T) := by
  rw [at_filter]
  congr 1
  unfold trisAt fanL
  apply List.filter_congr
  intro i _
  unfold hasB
  rw [Bool.eq_iff_iff, decide_eq_true_eq, haB_iff]
theorem fanL_len (T : List T3) (v : Int) (k : Nat) : (fanL T v k).length ≤ k := Nat.le_trans (List.length_filter_le _ _) (by rw [List.length_range]; exact Nat.le_refl _)
theorem fanL_lt {T : List T3} {v : Int} {k i : Nat} (h : i ∈ fanL T v k) : i < k ∧ haB (triAt T i) v = true := by
  unfold fanL at h
  obtain ⟨h1, h2⟩ := List.mem_filter.1 h
  exact ⟨List.mem_range.1 h1, h2⟩
theorem fanL_nodup (T : List T3) (v : Int) (k : Nat) : (fanL T v k).Nodup := (List.nodup_range).filter _
end Go.Mesh
namespace Go.Proofs.YtpbdcppaiafbgaaGreat
open Go Go.RowKit Go.Words Go.Mesh

def FanEnd (T : List T3) (v : Int) (e : Ending) : Prop := ∃ a b : Nat, e = .returned (.tuple #[.int .i64 (a : Int), .int .i64 (b : Int)]) ∧ a ≤ T.length ∧ b ≤ T.length ∧ ((a ≠ 0 ∧ a = b) ↔ (T.filter (haB · v) ≠ [] ∧ Cn (T.filter (haB · v)) v))
set_option maxRecDepth 40000 in
set_option maxHeartbeats 8000000 in
theorem fan15_calls (sv : Value) (N : Int) (T : List T3) (v : Int) (w : World) {B : Nat} (hB0 : B ≤ w.heap.size) (hT : Sl 3 RTri w B sv T) (hfew : T.length ≤ 8192) (h3 : G2 T) :
    Calls Tryz.prog 144 #[.agg #[.int .i64 N, sv], .int .i64 v] w fun e w' => FanEnd T v e ∧ Below w.heap.size w w' := by
  obtain ⟨A, cap, rfl, hcap⟩ := hT.form
  have hbox := Bk.new w 24 [.int .i64 N, .slice A T.length cap]
  have hb1 := (Below.refl w.heap.size w).alloc (Nat.le_refl _) (.cells #[.int .i64 N, .slice A T.length cap] 24)
  have hTA := hT.below keeps_tri (hb1.mono hB0)
  have hle : B ≤ (w.alloc (.cells #[.int .i64 N, .slice A T.length cap] 24)).heap.size := by rw [World.size_alloc]; omega
  have c1 := hbox.cell 1
  simp only [List.getElem?_cons_zero, List.getElem?_cons_succ] at c1
  have hz0 : w.heap.size < (w.alloc (.cells #[.int .i64 N, .slice A T.length cap] 24)).heap.size := by rw [World.size_alloc]; omega
  generalize hw0 : w.alloc (.cells #[.int .i64 N, .slice A T.length cap] 24) = w0 at *
  have HhT := Lib.hid hT; clear hT; have HhTA := Lib.hid hTA; clear hTA; have Hhbox := Lib.hid hbox; clear hbox; have Hh3 := Lib.hid h3; clear h3
  go_enter Tryz.func144, Tryz.ntmps144
  go_wp2_with fail
  clear hw0
  go_loopw [6, 7] (fun l i wr => ∃ k : Nat, k ≤ T.length ∧ i = .int .i64 k ∧ wr.ownsRow w0.heap.size 3 1 l (fanL T v k).length (nvals (fanL T v k)) ∧ Below w0.heap.size w0 wr) (fun _ i _ => T.length - (intOf i).toNat)
  case atStart => exact ⟨0, by omega, rfl, World.ownsRow_nil _ _ _ _, Below.refl _ _⟩
  case round =>
    obtain ⟨k, hk, rfl, hown, hbel⟩ := hrel
    obtain ⟨w1, hw1⟩ : ∃ w1, w1 = wr := ⟨_, rfl⟩
    subst hw1
    have c1r : w1.cell? ⟨w.heap.size, 1, none⟩ = some (.slice A T.length cap) := (hbel.cell (p := ⟨w.heap.size, 1, none⟩) hz0).trans c1
    have hsz := hbel.size
    have hgs : w.heap.size < w1.heap.size := by omega
    by_cases hlt : k < T.length
    · have hTr := HhTA.out.below keeps_tri (hbel.mono hle)
      obtain ⟨b, o, rfl, hb, a1, a2, a3⟩ := hTr.tri_at hlt
      rw [triAt_get hlt] at a1 a2 a3
      have hbw : b < w1.heap.size := by omega
      have hst := fanL_succ T v k
      have hll : (fanL T v k).length ≤ k := fanL_len T v k
      generalize triAt T k = x at *
      obtain ⟨x1, x2, x3⟩ := x
      simp only [] at a1 a2 a3
      have hha := has15_calls (x1, x2, x3) v
      obtain ⟨L9, hL9⟩ : ∃ L9, fanL T v k = L9 := ⟨_, rfl⟩
      rw [hL9] at hown hst hll
      have Hhown := Lib.hid hown; clear hown; have HhTr := Lib.hid hTr; clear hTr; have Hhst := Lib.hid hst; clear hst; have Hhha := Lib.hid hha; clear hha; have HhL9 := Lib.hid hL9; clear hL9
      go_wp2_with fail
      refine (Hhha.out _).mono ?_
      rintro e w2 ⟨rfl, hb2⟩
      have c1w : w2.cell? ⟨w.heap.size, 1, none⟩ = some (.slice (some ⟨b, o, none⟩) T.length cap) := (hb2.cell (p := ⟨w.heap.size, 1, none⟩) hgs).trans c1r
      have hz2 := hb2.size
      have hown2 := own_below Hhown.out hb2 (Nat.le_refl _)
      have hst := Hhst.out
      have hbel2 := hbel.trans (hb2.mono hsz)
      cases hq : haB (x1, x2, x3) v with
      | false =>
        rw [hq, if_neg (by simp), List.append_nil] at hst
        rw [← hst] at hown2
        have Hhown2 := Lib.hid hown2; clear hown2; have Hhq := Lib.hid hq; clear hq; have Hhst := Lib.hid hst; clear hst
        go_wp2_with fail
        exact ⟨⟨k + 1, by omega, by simp, Hhown2.out, hbel2⟩, by simp [intOf]; omega⟩
      | true =>
        rw [hq, if_pos rfl] at hst
        have hgo : ∀ (w5 : World) (v5 : Value), w5.ownsRow w0.heap.size 3 1 v5 (L9.length + 1) (nvals L9 ++ [.int .i64 (k : Int)]) → w5.ownsRow w0.heap.size 3 1 v5 (fanL T v (k + 1)).length (nvals (fanL T v (k + 1))) := fun w5 v5 h5 => by
          rw [hst, List.length_append]
          simpa [nvals] using h5
        obtain ⟨A5, cap5, rfl, hc5⟩ := own_form hown2
        have Hhown2 := Lib.hid hown2; clear hown2; have Hhq := Lib.hid hq; clear hq; have Hhst := Lib.hid hst; clear hst; have Hhgo := Lib.hid hgo; clear hgo
        go_wp2_with (at_builtin; refine append_block _ rfl (.tmp 27) (.tmp 29) 28 rfl w0.heap.size info_int Tryz.underlying28 rfl (by decide) _ L9.length (nvals L9) rfl (Hhown2.out.alloc _) w2.heap.size [.int .i64 (k : Int)] rfl (Bk.new _ _ _) rfl (by simp [Value.oneCell']) (by omega) (by omega) (by simp; omega) ?_; intro v1 w5 hown5 hb5 _ _; have Hhown5 := Lib.hid hown5; clear hown5)
        exact ⟨⟨k + 1, by omega, by simp, Hhgo.out _ _ Hhown5.out, (hbel2.alloc (by omega) _).trans hb5⟩, by simp [intOf]; omega⟩
    · obtain rfl : k = T.length := by omega
      have hfin := hb1.trans (hbel.mono hb1.size)
      have hLmap := fanL_all T v
      have hll := fanL_len T v T.length
      have hlt9 := fun i (hi : i ∈ fanL T v T.length) => fanL_lt hi
      have hnd := fanL_nodup T v T.length
      generalize hl : fanL T v T.length = l at *
      obtain ⟨L, hL⟩ : ∃ L, T.filter (haB · v) = L := ⟨_, rfl⟩
      rw [hL] at hLmap
      have hLlen : L.length = l.length := by rw [hLmap, List.length_map]
      by_cases hn : l.length = 0
      · have hln : l = [] := List.length_eq_zero_iff.1 hn
        subst hln
        have hres : FanEnd T v (.returned (.tuple #[.int .i64 ((0 : Nat) : Int), .int .i64 ((0 : Nat) : Int)])) := ⟨0, 0, rfl, Nat.zero_le _, Nat.zero_le _, ⟨fun h => absurd rfl h.1, fun h => absurd (hL.trans hLmap) h.1⟩⟩
        obtain ⟨A2, cap2, rfl, hc2⟩ := own_form hown
        clear hn
        have Hhown := Lib.hid hown; clear hown; have Hhres := Lib.hid hres; clear hres; have HhLmap := Lib.hid hLmap; clear hLmap; have HhL := Lib.hid hL; clear hL; have HhLlen := Lib.hid hLlen; clear hLlen; have Hhl := Lib.hid hl; clear hl; have Hhnd := Lib.hid hnd; clear hnd; have Hhlt9 := Lib.hid hlt9; clear hlt9
        go_wp2_with fail
        go_ret2
        exact ⟨Hhres.out, hfin⟩
      · have hpos0 : 0 < l.length := by omega
        obtain ⟨l0, hl0⟩ : ∃ l0, l[0]? = some l0 := ⟨_, List.getElem?_eq_getElem hpos0⟩
        have hl0m := hlt9 l0 (List.mem_of_getElem? hl0)
        have hl0t := hl0m.1
        obtain ⟨b, o, rfl, hb, _⟩ := (HhTA.out.below keeps_tri (hbel.mono hle)).tri_at hl0t
        have hbw1 : b < w1.heap.size := by omega
        have hTc : ∀ wz, Below w1.heap.size w1 wz → ∀ i, i < T.length → wz.cell? ⟨b, o + i * 3, none⟩ = some (.int .i64 (triAt T i).1) ∧ wz.cell? ⟨b, o + i * 3 + 1, none⟩ = some (.int .i64 (triAt T i).2.1) ∧ wz.cell? ⟨b, o + i * 3 + 2, none⟩ = some (.int .i64 (triAt T i).2.2) := fun wz hz i hi => by
          obtain ⟨b', o', he, _, e1, e2, e3⟩ := ((HhTA.out.below keeps_tri (hbel.mono hle)).below keeps_tri (hz.mono (show B ≤ w1.heap.size by omega))).tri_at hi
          injection he with he
          injection he with he1 he2
          subst he1; subst he2
          rw [triAt_get hi] at e1 e2 e3
          exact ⟨e1, e2, e3⟩
        have hsl := sl_nvals hown
        have hln1 : l.length = (l.length - 1) + 1 := by omega
        obtain ⟨A2, cap2, rfl, hc2⟩ := own_form hown
        obtain ⟨gl, rfl⟩ : ∃ g, A2 = some ⟨g, 0, none⟩ := by
          have h9 := hown
          rw [hln1] at h9
          obtain ⟨g', c', h8⟩ := ownsRow_succ h9
          injection h8 with h8
          exact ⟨_, h8⟩
        have hgl := (hown.lt gl rfl).2
        have hlc : ∀ wz, Below w1.heap.size w1 wz → ∀ i (li : Nat), l[i]? = some li → wz.cell? ⟨gl, i, none⟩ = some (.int .i64 (li : Int)) := fun wz hz i li hi => by
          have h9 := (own_cellN (i := i) (u := .int .i64 (li : Int)) hown (by unfold nvals; rw [List.getElem?_map, hi]; rfl)).1
          exact (hz.cell (p := ⟨gl, i, none⟩) hgl).trans h9
        have hLt : ∀ i (li : Nat), l[i]? = some li → triAt L i = triAt T li := fun i li hi => by
          have hil := (List.getElem?_eq_some_iff.1 hi).1
          rw [hLmap]
          unfold triAt
          rw [List.getD_eq_getElem?_getD, List.getElem?_map, hi]; rfl
        have hm1 := run_make_rep (P := Tryz.prog) 130 Tryz.underlying130 info_bool rfl T.length (by omega) (by omega)
        have hmk := Mk.start (L := L) (v := v) (by omega)
        have htop := Top.start (L := L) (v := v) (by omega)
        have hM0 : mk15 l ((List.replicate T.length false).set l0 true) = (List.replicate L.length false).set 0 true := by
          rw [mk15_set hnd hl0 (by rw [List.length_replicate]; exact hl0t), mk15_none, hLlen]
        have hcn0 : ((List.replicate L.length false).set 0 true).count true = 1 := by
          rw [count_mark (by rw [List.getElem?_replicate, if_pos (by omega)]), List.count_replicate]
          simp
        rw [← hM0] at hmk htop hcn0
        have hrep : bvals (List.replicate T.length false) = List.replicate T.length (.bool false) := by unfold bvals; rw [List.map_replicate]
        have harr : (Array.replicate T.length (Value.bool false)).setIfInBounds l0 (.bool true) = (bvals ((List.replicate T.length false).set l0 true)).toArray := by
          rw [← bvals_set, hrep, ← List.toArray_replicate, List.setIfInBounds_toArray]
        have hbk := Bk.new w1 4 (bvals ((List.replicate T.length false).set l0 true))
        rw [← harr] at hbk
        have hbm := (Below.refl w1.heap.size w1).alloc (Nat.le_refl _) (.cells ((Array.replicate T.length (Value.bool false)).setIfInBounds l0 (.bool true)) 4)
        have hr0 : (Array.replicate T.length (Value.bool false))[l0]? = some (.bool false) := by rw [Array.getElem?_replicate, if_pos hl0t]
        have hc00 := hlc w1 (Below.refl _ _) 0 l0 hl0
        have hlen0 : ((List.replicate T.length false).set l0 true).length = T.length := by rw [List.length_set, List.length_replicate]
        have hn0 : ((l.length : Int) == 0) = false := by rw [beq_eq_false_iff_ne]; omega
        have hl0i : (l0 : Int) < (T.length : Int) := by omega
        have hposl : 0 < (l.length : Int) := by omega
        clear harr hrep hln1
        generalize hWW : (List.replicate T.length false).set l0 true = W0 at *
        have hl8 : l.length ≤ 8192 := by omega
        have Hhown := Lib.hid hown; clear hown; have Hhsl := Lib.hid hsl; clear hsl; have Hhlc := Lib.hid hlc; clear hlc; have HhLt := Lib.hid hLt; clear hLt; have HhTc := Lib.hid hTc; clear hTc; have Hhmk := Lib.hid hmk; clear hmk; have Hhtop := Lib.hid htop; clear htop; have Hhbk := Lib.hid hbk; clear hbk; have HhM0 := Lib.hid hM0; clear hM0; have Hhcn0 := Lib.hid hcn0; clear hcn0; have Hhlen0 := Lib.hid hlen0; clear hlen0; have HhWW := Lib.hid hWW; clear hWW; have Hhnd := Lib.hid hnd; clear hnd; have Hhlt9 := Lib.hid hlt9; clear hlt9; have HhLmap := Lib.hid hLmap; clear hLmap; have HhL := Lib.hid hL; clear hL; have Hhl := Lib.hid hl; clear hl; have Hhl0m := Lib.hid hl0m; clear hl0m
        go_wp2_with fail
        clear hm1 hr0 hc00
        generalize hwm : w1.alloc (.cells ((Array.replicate T.length (Value.bool false)).setIfInBounds l0 (.bool true)) 4) = wm at *
        clear hwm
        have hbkl := Hhbk.out.lt
        go_loopw [9, 10] (fun mv rv wr => ∃ (r : Nat) (W : List Bool), r ≤ l.length ∧ rv = .int .i64 r ∧ mv = .int .i64 ((mk15 l W).count true : Nat) ∧ W.length = T.length ∧ Mk L v (mk15 l W) ∧ Top L v r (mk15 l W) ∧ Bk wr w1.heap.size 4 (bvals W) ∧ Below w1.heap.size w1 wr) (fun _ rv _ => l.length - (intOf rv).toNat)
        case atStart => exact ⟨0, W0, by omega, rfl, by rw [Hhcn0.out]; rfl, Hhlen0.out, Hhmk.out, Hhtop.out, Hhbk.out, hbm⟩
        case round =>
          obtain ⟨r, W, hr, rfl, rfl, hWl, hmk9, htop9, hbkr, hbr⟩ := hrel
          have hcle : (mk15 l W).count true ≤ l.length := Nat.le_trans List.count_le_length (by unfold mk15; rw [List.length_map]; exact Nat.le_refl _)
          by_cases hrl : r < l.length
          · have hmid9 := htop9.mid
            obtain ⟨cn, hcn⟩ : ∃ cn, (mk15 l W).count true = cn := ⟨_, rfl⟩
            rw [hcn]
            have Hhmk9 := Lib.hid hmk9; clear hmk9; have Hhtop9 := Lib.hid htop9; clear htop9; have Hhbkr := Lib.hid hbkr; clear hbkr; have Hhmid9 := Lib.hid hmid9; clear hmid9; have Hhcn := Lib.hid hcn; clear hcn; have Hhcle := Lib.hid hcle; clear hcle
            go_wp2_with fail
            go_loopw [9, 11] (fun mv iv wr => ∃ (i : Nat) (W : List Bool), i ≤ l.length ∧ iv = .int .i64 i ∧ mv = .int .i64 ((mk15 l W).count true : Nat) ∧ W.length = T.length ∧ Mk L v (mk15 l W) ∧ Mid L v r i 0 (mk15 l W) ∧ Bk wr w1.heap.size 4 (bvals W) ∧ Below w1.heap.size w1 wr) (fun _ iv _ => l.length - (intOf iv).toNat)
            case atStart => exact ⟨0, W, by omega, rfl, by rw [Hhcn.out], hWl, Hhmk9.out, Hhmid9.out, Hhbkr.out, hbr⟩
            case round =>
              obtain ⟨i, W2, hi, rfl, rfl, hWl2, hmk2, hmid2, hbk2, hbr2⟩ := hrel
              obtain ⟨cn2, hcn2⟩ : ∃ cn, (mk15 l W2).count true = cn := ⟨_, rfl⟩
              rw [hcn2]
              by_cases hil : i < l.length
              · have Hhmk2 := Lib.hid hmk2; clear hmk2; have Hhmid2 := Lib.hid hmid2; clear hmid2; have Hhbk2 := Lib.hid hbk2; clear hbk2; have Hhcn2 := Lib.hid hcn2; clear hcn2
                go_wp2_with fail
                go_loopw [9, 12] (fun mv kv wr => ∃ (k : Nat) (W : List Bool), k ≤ l.length ∧ kv = .int .i64 k ∧ mv = .int .i64 ((mk15 l W).count true : Nat) ∧ W.length = T.length ∧ Mk L v (mk15 l W) ∧ Mid L v r i k (mk15 l W) ∧ Bk wr w1.heap.size 4 (bvals W) ∧ Below w1.heap.size w1 wr) (fun _ kv _ => l.length - (intOf kv).toNat)
                case atStart => exact ⟨0, W2, by omega, rfl, by rw [Hhcn2.out], hWl2, Hhmk2.out, Hhmid2.out, Hhbk2.out, hbr2⟩
                case round =>
                  obtain ⟨k, W3, hk3, rfl, rfl, hWl3, hmk3, hmid3, hbk3, hbr3⟩ := hrel
                  have hcle3 : (mk15 l W3).count true ≤ l.length := Nat.le_trans List.count_le_length (by unfold mk15; rw [List.length_map]; exact Nat.le_refl _)
                  by_cases hkl : k < l.length
                  · obtain ⟨li, hli⟩ : ∃ li, l[i]? = some li := ⟨_, List.getElem?_eq_getElem hil⟩
                    obtain ⟨lk, hlk⟩ : ∃ lk, l[k]? = some lk := ⟨_, List.getElem?_eq_getElem hkl⟩
                    have hlit := (Hhlt9.out li (List.mem_of_getElem? hli))
                    have hlkt := (Hhlt9.out lk (List.mem_of_getElem? hlk))
                    have hlit1 := hlit.1
                    have hlkt1 := hlkt.1
                    have hMi := mk15_at (W := W3) hli
                    have hMk := mk15_at (W := W3) hlk
                    obtain ⟨bi, hbi⟩ : ∃ b, W3[li]? = some b := ⟨_, List.getElem?_eq_getElem (by omega)⟩
                    obtain ⟨bk, hbk9⟩ : ∃ b, W3[lk]? = some b := ⟨_, List.getElem?_eq_getElem (by omega)⟩
                    rw [List.getD_eq_getElem?_getD, hbi] at hMi
                    rw [List.getD_eq_getElem?_getD, hbk9] at hMk
                    simp only [Option.getD_some] at hMi hMk
                    have hci := hbk3.cell li
                    rw [bvals_cell hbi] at hci
                    have hck := hbk3.cell lk
                    rw [bvals_cell hbk9] at hck
                    have hl1 := Hhlc.out wr hbr3 i li hli
                    have hl2 := Hhlc.out wr hbr3 k lk hlk
                    have hlii : (li : Int) < (T.length : Int) := by omega
                    have hlki : (lk : Int) < (T.length : Int) := by omega
                    obtain ⟨cn3, hcn3⟩ : ∃ cn, (mk15 l W3).count true = cn := ⟨_, rfl⟩
                    rw [hcn3] at hcle3
                    rw [hcn3]
                    have hbd := hbr3.drew
                    have hbkd := hbk3.drew
                    cases bi with
                    | false =>
                      have hm9 := hmid3.pass fun h => by rw [hMi] at h; cases h
                      have Hhmk3 := Lib.hid hmk3; clear hmk3; have Hhmid3 := Lib.hid hmid3; clear hmid3; have Hhbk3 := Lib.hid hbk3; clear hbk3; have Hhbi := Lib.hid hbi; clear hbi; have Hhbk9 := Lib.hid hbk9; clear hbk9; have Hhm9 := Lib.hid hm9; clear hm9; have Hhcn3 := Lib.hid hcn3; clear hcn3; have HhMi := Lib.hid hMi; clear hMi; have HhMk := Lib.hid hMk; clear hMk; have Hhli := Lib.hid hli; clear hli; have Hhlk := Lib.hid hlk; clear hlk; have Hhlit := Lib.hid hlit; clear hlit; have Hhlkt := Lib.hid hlkt; clear hlkt; have Hhbkd := Lib.hid hbkd; clear hbkd
                      go_wp2_with fail
                      refine Go.Canon.wp_region_text mixed (by kernel_rfl) ?_
                      go_wp2_with fail
                      refine Go.Canon.chk (by rfl) ?_
                      go_wp2_with fail
                      exact ⟨⟨k + 1, W3, by omega, by simp, by rw [Hhcn3.out], hWl3, Hhmk3.out, Hhm9.out, Hhbkd.out, hbd⟩, by simp [intOf]; omega⟩
                    | true =>
                      cases bk with
                      | true =>
                        have hm9 := hmid3.pass fun _ _ => hMk
                        have Hhmk3 := Lib.hid hmk3; clear hmk3; have Hhmid3 := Lib.hid hmid3; clear hmid3; have Hhbk3 := Lib.hid hbk3; clear hbk3; have Hhbi := Lib.hid hbi; clear hbi; have Hhbk9 := Lib.hid hbk9; clear hbk9; have Hhm9 := Lib.hid hm9; clear hm9; have Hhcn3 := Lib.hid hcn3; clear hcn3; have HhMi := Lib.hid hMi; clear hMi; have HhMk := Lib.hid hMk; clear hMk; have Hhli := Lib.hid hli; clear hli; have Hhlk := Lib.hid hlk; clear hlk; have Hhlit := Lib.hid hlit; clear hlit; have Hhlkt := Lib.hid hlkt; clear hlkt; have Hhbkd := Lib.hid hbkd; clear hbkd
                        go_wp2_with fail
                        refine Go.Canon.wp_region_text mixed (by kernel_rfl) ?_
                        go_wp2_with fail
                        refine Go.Canon.chk (by rfl) ?_
                        go_wp2_with fail
                        exact ⟨⟨k + 1, W3, by omega, by simp, by rw [Hhcn3.out], hWl3, Hhmk3.out, Hhm9.out, Hhbkd.out, hbd⟩, by simp [intOf]; omega⟩
                      | false =>
                        have hab : be15 (triAt T li) (triAt T lk) = adB v (triAt L i) (triAt L k) := by
                          rw [HhLt.out i li hli, HhLt.out k lk hlk]
                          exact be15_iff (Hh3.out li hlit.1) hlit.2 hlkt.2
                        have hms : be15 (triAt T li) (triAt T lk) = true → Mk L v (mk15 l (W3.set lk true)) ∧ Mid L v r i (k + 1) (mk15 l (W3.set lk true)) ∧ (mk15 l (W3.set lk true)).count true = cn3 + 1 := fun ha => by
                          rw [mk15_set Hhnd.out hlk (by omega)]
                          obtain ⟨g1, g2⟩ := hmid3.mark hmk3 (by omega) (by omega) hMi hMk (by rw [← hab]; exact ha)
                          exact ⟨g1, g2, by rw [count_mark hMk, hcn3]⟩
                        have hmp : be15 (triAt T li) (triAt T lk) = false → Mid L v r i (k + 1) (mk15 l W3) := fun ha => hmid3.pass fun _ h => by rw [← hab, ha] at h; cases h
                        have t1 := HhTc.out wr hbr3 li hlit1
                        have t2 := HhTc.out wr hbr3 lk hlkt1
                        obtain ⟨t11, t12, t13⟩ := t1
                        obtain ⟨t21, t22, t23⟩ := t2
                        have hbe := fun wz => beside15_calls (triAt T li) (triAt T lk) wz
                        have c1s : wr.cell? ⟨w.heap.size, 1, none⟩ = some (.slice (some ⟨b, o, none⟩) T.length cap) := (hbr3.cell (p := ⟨w.heap.size, 1, none⟩) hgs).trans c1r
                        obtain ⟨bb, hbb⟩ : ∃ bb, be15 (triAt T li) (triAt T lk) = bb := ⟨_, rfl⟩
                        rw [hbb] at hbe hms hmp
                        generalize triAt T li = x at *
                        generalize triAt T lk = y at *
                        obtain ⟨x1, x2, x3⟩ := x
                        obtain ⟨y1, y2, y3⟩ := y
                        simp only [triV] at hbe t11 t12 t13 t21 t22 t23
                        have hz3 := hbr3.size
                        have hbk3l := hbk3.lt
                        have hWlk : lk < W3.length := by omega
                        have Hhmk3 := Lib.hid hmk3; clear hmk3; have Hhmid3 := Lib.hid hmid3; clear hmid3; have Hhbk3 := Lib.hid hbk3; clear hbk3; have Hhbi := Lib.hid hbi; clear hbi; have Hhbk9 := Lib.hid hbk9; clear hbk9; have Hhcn3 := Lib.hid hcn3; clear hcn3; have HhMi := Lib.hid hMi; clear hMi; have HhMk := Lib.hid hMk; clear hMk; have Hhli := Lib.hid hli; clear hli; have Hhlk := Lib.hid hlk; clear hlk; have Hhlit := Lib.hid hlit; clear hlit; have Hhlkt := Lib.hid hlkt; clear hlkt; have Hhbkd := Lib.hid hbkd; clear hbkd; have Hhab := Lib.hid hab; clear hab; have Hhms := Lib.hid hms; clear hms; have Hhmp := Lib.hid hmp; clear hmp; have Hhbe := Lib.hid hbe; clear hbe; have Hhbb := Lib.hid hbb; clear hbb
                        go_wp2_with fail
                        refine Go.Canon.wp_region_text mixed (by kernel_rfl) ?_
                        go_wp2_with fail
                        refine (Hhbe.out _).mono ?_
                        rintro e w5 ⟨rfl, hb5⟩
                        have hbk5 := Hhbkd.out.below hb5 hbk3l
                        have hbr5 := hbd.trans (hb5.mono (by simpa using hz3))
                        have hl2' := Hhlc.out w5 hbr5 k lk Hhlk.out
                        cases bb with
                        | false =>
                          have hm9 := Hhmp.out rfl
                          have Hhbk5 := Lib.hid hbk5; clear hbk5; have Hhm9 := Lib.hid hm9; clear hm9
                          go_wp2_with fail
                          refine Go.Canon.chk (by rfl) ?_
                          go_wp2_with fail
                          exact ⟨⟨k + 1, W3, by omega, by simp, by rw [Hhcn3.out], hWl3, Hhmk3.out, Hhm9.out, Hhbk5.out, hbr5⟩, by simp [intOf]; omega⟩
                        | true =>
                          obtain ⟨g1, g2, g3⟩ := Hhms.out rfl
                          have hck5 := hbk5.cell lk
                          rw [bvals_cell Hhbk9.out] at hck5
                          have hfr5 := hbk5.frozen lk
                          have hbk6 := hbk5.set lk (.bool true)
                          rw [bvals_set] at hbk6
                          have hbr6 := hbr5.setCell (p := ⟨w1.heap.size, lk, none⟩) (Nat.le_refl _) (.bool true)
                          have Hhbk5 := Lib.hid hbk5; clear hbk5; have Hhbk6 := Lib.hid hbk6; clear hbk6; have Hg1 := Lib.hid g1; clear g1; have Hg2 := Lib.hid g2; clear g2; have Hg3 := Lib.hid g3; clear g3; have Hhbr6 := Lib.hid hbr6; clear hbr6
                          go_wp2_with fail
                          refine Go.Canon.chk (by rfl) ?_
                          go_wp2_with fail
                          exact ⟨⟨k + 1, W3.set lk true, by omega, by simp, by rw [Hg3.out]; rfl, by rw [List.length_set]; exact hWl3, Hg1.out, Hg2.out, Hhbk6.out, Hhbr6.out⟩, by simp [intOf]; omega⟩
                  · obtain rfl : k = l.length := by omega
                    rw [← hLlen] at hmid3
                    have hm9 := hmid3.row
                    obtain ⟨cn3, hcn3⟩ : ∃ cn, (mk15 l W3).count true = cn := ⟨_, rfl⟩
                    rw [hcn3]
                    have Hhmk3 := Lib.hid hmk3; clear hmk3; have Hhmid3 := Lib.hid hmid3; clear hmid3; have Hhbk3 := Lib.hid hbk3; clear hbk3; have Hhm9 := Lib.hid hm9; clear hm9; have Hhcn3 := Lib.hid hcn3; clear hcn3
                    go_wp2_with fail
                    exact ⟨⟨i + 1, W3, by omega, by simp, by rw [Hhcn3.out], hWl3, Hhmk3.out, Hhm9.out, Hhbk3.out, hbr3⟩, by simp [intOf]; omega⟩
              · obtain rfl : i = l.length := by omega
                rw [← hLlen] at hmid2
                have hm9 := hmid2.top
                have Hhmk2 := Lib.hid hmk2; clear hmk2; have Hhmid2 := Lib.hid hmid2; clear hmid2; have Hhbk2 := Lib.hid hbk2; clear hbk2; have Hhm9 := Lib.hid hm9; clear hm9; have Hhcn2 := Lib.hid hcn2; clear hcn2
                go_wp2_with fail
                exact ⟨⟨r + 1, W2, by omega, by simp, by rw [Hhcn2.out], hWl2, Hhmk2.out, Hhm9.out, Hhbk2.out, hbr2⟩, by simp [intOf]; omega⟩
          · obtain rfl : r = l.length := by omega
            rw [← hLlen] at htop9
            have hdone := htop9.done hmk9
            have hMl : (mk15 l W).length = l.length := by unfold mk15; rw [List.length_map]
            have hres : FanEnd T v (.returned (.tuple #[.int .i64 ((l.length : Nat) : Int), .int .i64 (((mk15 l W).count true : Nat) : Int)])) := by
              refine ⟨l.length, _, rfl, by omega, by omega, ?_⟩
              rw [HhL.out]
              constructor
              · rintro ⟨_, h2⟩
                refine ⟨fun h9 => by rw [h9] at hLlen; simp at hLlen; omega, hdone.1 fun k hk => ?_⟩
                exact (count_all _).1 (by rw [← h2, hMl]) k (by rw [hMl]; omega)
              · rintro ⟨_, h2⟩
                refine ⟨hn, ?_⟩
                have := (count_all (mk15 l W)).2 fun k hk => hdone.2 h2 k (by rw [hMl] at hk; omega)
                rw [this, hMl]
            have hfr := below_call hfin hbr hfin.size
            generalize (mk15 l W).count true = cn at *
            have Hhmk9 := Lib.hid hmk9; clear hmk9; have Hhtop9 := Lib.hid htop9; clear htop9; have Hhbkr := Lib.hid hbkr; clear hbkr; have Hhdone := Lib.hid hdone; clear hdone; have Hhres := Lib.hid hres; clear hres; have HhMl := Lib.hid hMl; clear hMl
            go_wp2_with fail
            go_ret2
            exact ⟨Hhres.out, hfr⟩
end Go.Proofs.YtpbdcppaiafbgaaGreat

namespace Go.Mesh
theorem oi_nonneg {o : Option Nat} : 0 ≤ oi o ↔ o ≠ none := by
  cases o with
  | none => simp [oi]
  | some c => simp [oi]
end Go.Mesh
namespace Go.Proofs.YtpbdcppaiafbgaaGreat
open Go Go.RowKit Go.Words Go.Mesh

end Go.Proofs.YtpbdcppaiafbgaaGreat
