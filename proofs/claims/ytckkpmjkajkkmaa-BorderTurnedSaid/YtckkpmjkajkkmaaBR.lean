/- Turned and renamed surfaces: plain laws. -/
import Derived.Test.YtckkpmjkajkkmaaBQ
namespace Go.Mesh
section
variable {N : Int} {T X : List T3} {σ τ : Nat → Nat} {f : Int → Int}
theorem Sim.loops (s : Sim N T X σ τ f) (h : Surf N T) : (lps X N N.toNat).length = (lps T N N.toNat).length := by
  have hX := s.surf h
  have hl := s.len
  refine Nat.le_antisymm ?_ (s.loops_le h)
  obtain ⟨g, hg⟩ : ∃ g : Int → Int, ∀ u, 0 ≤ u → u < N → 0 ≤ g u ∧ g u < N ∧ f (g u) = u := by
    refine ⟨fun u => if h : 0 ≤ u ∧ u < N then Classical.choose (s.fsur u h.1 h.2) else u, fun u h0 h1 => ?_⟩
    simp only [dif_pos (And.intro h0 h1)]
    exact Classical.choose_spec (s.fsur u h0 h1)
  have s2 : Sim N X T τ σ g := {
    len := hl.symm
    lt := fun c hc => by have := s.ltr c (by omega); omega
    ltr := fun c hc => by have := s.lt c (by omega); omega
    st := fun c hc => s.ts c (by omega)
    ts := fun c hc => s.st c (by omega)
    nx := fun c hc => by
      have hc' : c < 3 * T.length := by omega
      have h1 := s.nx (τ c) (s.ltr c hc')
      rw [s.st c hc'] at h1
      rw [← h1, s.ts _ (nx_lt (s.ltr c hc'))]
    vt := fun c hc => by
      have hc' : c < 3 * T.length := by omega
      have hτ := s.ltr c hc'
      have h1 := s.vt (τ c) hτ
      rw [s.st c hc'] at h1
      have hr := h.rng _ hτ
      have hx := hX.rng c hc
      have hgg := hg _ hx.1 hx.2
      exact s.finj _ _ hr.1 hr.2 hgg.1 hgg.2.1 (by rw [hgg.2.2, ← h1])
    frng := fun v h0 h1 => ⟨(hg v h0 h1).1, (hg v h0 h1).2.1⟩
    finj := fun v u h0 h1 g0 g1 e => by rw [← (hg v h0 h1).2.2, e, (hg u g0 g1).2.2]
    fsur := fun u h0 h1 => by
      have hr := s.frng u h0 h1
      have hgg := hg _ hr.1 hr.2
      exact ⟨f u, hr.1, hr.2, s.finj _ _ hgg.1 hgg.2.1 h0 h1 hgg.2.2⟩ }
  exact s2.loops_le hX
theorem Surf.aft_mir (h : Surf N T) {v u : Int} (ha : aftV T v = some u) : aftV (Mesh.mir T) u = some v := by
  obtain ⟨c, h1, h2, rfl, rfl⟩ := h.aftV_iff.1 ha
  refine h.mir.aftV_iff.2 ⟨mc c, by rw [mir_len]; exact mc_lt h1, ?_, by rw [pv_mc, vt_mir (nx_lt h1)], by rw [nx_mc, vt_mir (pv_lt h1)]⟩
  cases hd : opp (Mesh.mir T) (mc c) with
  | none => rfl
  | some d =>
    exfalso
    obtain ⟨g1, g2, g3⟩ := h.mir.opp_iff.1 hd
    rw [mir_len] at g1
    rw [pv_mc, vt_mir (nx_lt h1), vt_mir' (nx_lt g1), show mc (nx d) = pv (mc d) from (pv_mc d).symm] at g2
    rw [nx_mc, vt_mir (pv_lt h1), vt_mir' (pv_lt g1), show mc (pv d) = nx (mc d) from (nx_mc d).symm] at g3
    have : opp T c = some (mc d) := h.opp_iff.2 ⟨mc_lt g1, g3, g2⟩
    rw [h2] at this
    cases this
theorem Surf.aft_mir_none (h : Surf N T) {v : Int} (ha : aftV T v = none) : aftV (Mesh.mir T) v = none := by
  cases hw : aftV (Mesh.mir T) v with
  | none => rfl
  | some w =>
    exfalso
    have h1 := h.mir.aft_mir hw
    rw [mir_mir] at h1
    obtain ⟨b, hb⟩ := h.aftV_on h1
    rw [ha] at hb
    cases hb
end
/-- A triangle turned to a corner. -/
def rot (t : T3) : Nat → T3
  | 0 => t
  | 1 => (t.2.1, t.2.2, t.1)
  | _ => (t.2.2, t.1, t.2.1)
theorem vx_rot (t : T3) {r m : Nat} (hr : r < 3) (hm : m < 3) : vx (rot t r) m = vx t ((m + r) % 3) := by
  have h1 : r = 0 ∨ r = 1 ∨ r = 2 := by omega
  have h2 : m = 0 ∨ m = 1 ∨ m = 2 := by omega
  rcases h1 with rfl | rfl | rfl <;> rcases h2 with rfl | rfl | rfl <;> rfl
/-- How far the triangle that comes to place j is turned, as long as k pairs are swapped. -/
def rk (n k j : Nat) : Nat := if j < k then 1 else if n - 1 - j < k then 2 else 0
/-- The list with its first k pairs swapped, and turned. -/
def swp (L : List T3) (k : Nat) : List T3 := (List.range L.length).map fun j => if rk L.length k j = 0 then triAt L j else rot (triAt L (L.length - 1 - j)) (rk L.length k j)
theorem swp_len (L : List T3) (k : Nat) : (swp L k).length = L.length := by unfold swp; simp
theorem swp_at (L : List T3) (k : Nat) {j : Nat} (h : j < L.length) : (swp L k)[j]? = some (if rk L.length k j = 0 then triAt L j else rot (triAt L (L.length - 1 - j)) (rk L.length k j)) := by
  unfold swp; simp [h]
theorem swp_zero (L : List T3) : swp L 0 = L := by
  apply List.ext_getElem?
  intro j
  by_cases h : j < L.length
  · rw [swp_at L 0 h, List.getElem?_eq_getElem h]
    have : rk L.length 0 j = 0 := by unfold rk; simp
    rw [if_pos this]
    unfold triAt
    rw [List.getD_eq_getElem?_getD, List.getElem?_eq_getElem h]; rfl
  · rw [List.getElem?_eq_none (by rw [swp_len]; omega), List.getElem?_eq_none (by omega)]
theorem swp_step (L : List T3) {k : Nat} (h : k < L.length / 2) : swp L (k + 1) = ((swp L k).set k (rot (triAt L (L.length - 1 - k)) 1)).set (L.length - 1 - k) (rot (triAt L k) 2) := by
  apply List.ext_getElem?
  intro j
  by_cases hj : j < L.length
  · rw [swp_at L (k + 1) hj, List.getElem?_set, List.getElem?_set, List.length_set, swp_len]
    by_cases h1 : L.length - 1 - k = j
    · have e1 : rk L.length (k + 1) j = 2 := by unfold rk; rw [if_neg (by omega), if_pos (by omega)]
      rw [if_pos h1, e1, if_neg (by omega), if_pos (by omega), show L.length - 1 - j = k by omega]
    · rw [if_neg h1]
      by_cases h2 : k = j
      · have e1 : rk L.length (k + 1) j = 1 := by unfold rk; rw [if_pos (by omega)]
        rw [if_pos h2, e1, if_neg (by omega), if_pos (by omega), h2]
      · rw [if_neg h2, swp_at L k hj]
        have e1 : rk L.length (k + 1) j = rk L.length k j := by
          unfold rk
          by_cases h3 : j < k
          · rw [if_pos h3, if_pos (by omega)]
          · rw [if_neg h3, if_neg (by omega)]
            by_cases h4 : L.length - 1 - j < k
            · rw [if_pos h4, if_pos (by omega)]
            · rw [if_neg h4, if_neg (by omega)]
        rw [e1]
  · rw [List.getElem?_eq_none (by rw [swp_len]; omega), List.getElem?_eq_none (by rw [List.length_set, List.length_set, swp_len]; omega)]
/-- Other numbers for a triangle's vertices. -/
def ren (f : Int → Int) (T : List T3) : List T3 := T.map fun t => (f t.1, f t.2.1, f t.2.2)
theorem ren_len (f : Int → Int) (T : List T3) : (ren f T).length = T.length := by unfold ren; simp
theorem triAt_ren (f : Int → Int) {T : List T3} {i : Nat} (h : i < T.length) : triAt (ren f T) i = (f (triAt T i).1, f (triAt T i).2.1, f (triAt T i).2.2) := by
  unfold triAt ren
  rw [List.getD_eq_getElem?_getD, List.getElem?_map, List.getD_eq_getElem?_getD, List.getElem?_eq_getElem h]
  rfl
theorem vx_ren (f : Int → Int) (t : T3) {m : Nat} (hm : m < 3) : vx (f t.1, f t.2.1, f t.2.2) m = f (vx t m) := by
  have h2 : m = 0 ∨ m = 1 ∨ m = 2 := by omega
  rcases h2 with rfl | rfl | rfl <;> rfl
theorem vt_tri (T : List T3) (c : Nat) : vt T c = vx (triAt T (c / 3)) (c % 3) := rfl
/-- The numbers from 0 to n - 1, each once. -/
def PermL (l : List Int) (n : Nat) : Prop := l.length = n ∧ ∀ v : Nat, v < n → l.count (v : Int) = 1
theorem PermL.mem {l : List Int} {n : Nat} (h : PermL l n) {v : Nat} (hv : v < n) : (v : Int) ∈ l := by
  have := h.2 v hv
  exact List.count_pos_iff.1 (by omega)
theorem PermL.rng {l : List Int} {n : Nat} (h : PermL l n) {x : Int} (hx : x ∈ l) : 0 ≤ x ∧ x < n := by
  apply Classical.byContradiction
  intro hno
  have hnd : ((List.range n).map fun v : Nat => (v : Int)).Nodup := nodup_inj List.nodup_range fun a _ b _ e => by have : (a : Int) = (b : Int) := e; omega
  have hs : ((List.range n).map fun v : Nat => (v : Int)) ⊆ l.erase x := by
    intro y hy
    obtain ⟨v, hv, rfl⟩ := List.mem_map.1 hy
    have hvn := List.mem_range.1 hv
    exact (List.mem_erase_of_ne (by omega)).2 (h.mem hvn)
  have h1 := nodup_sub hnd hs
  rw [List.length_map, List.length_range, List.length_erase_of_mem hx, h.1] at h1
  have := List.length_pos_of_mem hx
  have := h.1
  omega
theorem PermL.nodup {l : List Int} {n : Nat} (h : PermL l n) : l.Nodup := by
  refine List.nodup_iff_count.2 fun x => ?_
  by_cases hx : x ∈ l
  · have hr := h.rng hx
    have := h.2 x.toNat (by omega)
    rw [Int.toNat_of_nonneg hr.1] at this
    omega
  · rw [List.count_eq_zero.2 hx]; omega
/-- What a permutation makes of a number. -/
def pf (l : List Int) (v : Int) : Int := l.getD v.toNat 0
theorem pf_at {l : List Int} {n : Nat} (h : PermL l n) {v : Int} (_ : 0 ≤ v) (_ : v < n) : l[v.toNat]? = some (pf l v) := by
  unfold pf
  rw [List.getD_eq_getElem?_getD, List.getElem?_eq_getElem (by have := h.1; omega)]
  rfl
/-- A surface by other numbers, its triangles turned, and told from behind. -/
theorem sim_swp {n : Nat} {T : List T3} {l : List Int} (hp : PermL l n) :
    Sim n T (swp (ren (pf l) T) (T.length / 2)) (fun c => 3 * (T.length - 1 - c / 3) + (c % 3 + 3 - rk T.length (T.length / 2) (T.length - 1 - c / 3)) % 3) (fun c => 3 * (T.length - 1 - c / 3) + (c % 3 + rk T.length (T.length / 2) (c / 3)) % 3) (pf l) := by
  have hrk : ∀ j, rk T.length (T.length / 2) j < 3 := fun j => by unfold rk; split <;> (try split) <;> omega
  have hmem : ∀ v : Int, 0 ≤ v → v < n → pf l v ∈ l := fun v h0 h1 => List.mem_of_getElem? (pf_at hp h0 h1)
  refine ⟨by rw [swp_len, ren_len], fun c hc => by omega, fun c hc => by omega, fun c hc => ?_, fun c hc => ?_, fun c hc => ?_, fun c hc => ?_, fun v h0 h1 => hp.rng (hmem v h0 h1), fun v u h0 h1 g0 g1 e => ?_, fun u h0 h1 => ?_⟩
  · have := hrk (c / 3)
    have e1 : (3 * (T.length - 1 - c / 3) + (c % 3 + rk T.length (T.length / 2) (c / 3)) % 3) / 3 = T.length - 1 - c / 3 := by omega
    have e2 : T.length - 1 - (T.length - 1 - c / 3) = c / 3 := by omega
    simp only [e1, e2]
    generalize rk T.length (T.length / 2) (c / 3) = r at *
    omega
  · have := hrk (T.length - 1 - c / 3)
    have e1 : (3 * (T.length - 1 - c / 3) + (c % 3 + 3 - rk T.length (T.length / 2) (T.length - 1 - c / 3)) % 3) / 3 = T.length - 1 - c / 3 := by omega
    have e2 : T.length - 1 - (T.length - 1 - c / 3) = c / 3 := by omega
    simp only [e1, e2]
    generalize rk T.length (T.length / 2) (T.length - 1 - c / 3) = r at *
    omega
  · have := hrk (T.length - 1 - c / 3)
    simp only [nx_div]
    generalize rk T.length (T.length / 2) (T.length - 1 - c / 3) = r at *
    unfold nx
    omega
  · have hj : T.length - 1 - c / 3 < T.length := by omega
    have h3 := hrk (T.length - 1 - c / 3)
    rw [vt_tri, vt_tri]
    have e1 : (3 * (T.length - 1 - c / 3) + (c % 3 + 3 - rk T.length (T.length / 2) (T.length - 1 - c / 3)) % 3) / 3 = T.length - 1 - c / 3 := by omega
    have e2 : (3 * (T.length - 1 - c / 3) + (c % 3 + 3 - rk T.length (T.length / 2) (T.length - 1 - c / 3)) % 3) % 3 = (c % 3 + 3 - rk T.length (T.length / 2) (T.length - 1 - c / 3)) % 3 := by omega
    rw [e1, e2]
    have e3 : triAt (swp (ren (pf l) T) (T.length / 2)) (T.length - 1 - c / 3) = rot (triAt (ren (pf l) T) (c / 3)) (rk T.length (T.length / 2) (T.length - 1 - c / 3)) := by
      have h4 := swp_at (ren (pf l) T) (T.length / 2) (j := T.length - 1 - c / 3) (by rw [ren_len]; exact hj)
      rw [ren_len] at h4
      unfold triAt at h4 ⊢
      rw [List.getD_eq_getElem?_getD (l := swp _ _), h4]
      rw [Option.getD_some]
      have e5 : T.length - 1 - (T.length - 1 - c / 3) = c / 3 := by omega
      rw [e5]
      by_cases hz : rk T.length (T.length / 2) (T.length - 1 - c / 3) = 0
      · rw [if_pos hz, hz]
        have : T.length - 1 - c / 3 = c / 3 := by
          unfold rk at hz
          split at hz
          · cases hz
          · split at hz
            · cases hz
            · omega
        rw [this]
        rfl
      · rw [if_neg hz]
    rw [e3, vx_rot _ h3 (by omega), triAt_ren _ (by omega), vx_ren _ _ (by omega)]
    congr 2
    generalize rk T.length (T.length / 2) (T.length - 1 - c / 3) = r at *
    omega
  · have e1 := pf_at hp h0 h1
    have e2 := pf_at hp g0 g1
    obtain ⟨k1, e1⟩ := List.getElem?_eq_some_iff.1 e1
    obtain ⟨k2, e2⟩ := List.getElem?_eq_some_iff.1 e2
    have := (List.getElem_inj hp.nodup (h₀ := k1) (h₁ := k2)).1 (by rw [e1, e2, e])
    omega
  · have hm := hp.mem (v := u.toNat) (by omega)
    rw [Int.toNat_of_nonneg h0] at hm
    obtain ⟨i, hi, e⟩ := List.getElem_of_mem hm
    have hl := hp.1
    exact ⟨i, by omega, by omega, by unfold pf; rw [Int.toNat_natCast, List.getD_eq_getElem?_getD, List.getElem?_eq_getElem hi, e]; rfl⟩
end Go.Mesh
