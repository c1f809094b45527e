/- Plain: a border loop whose edges are sewn to one another as one run is a loop less; no program in sight. -/
import Derived.Test.YtpbdcppaiafbgaaGB
import Derived.Test.YtpbdcppaiafbgaaGC
import Derived.Test.YtpbdcppaiafbgaaBQ
namespace Go.Mesh
open Go.Proofs.Ytpbdcppaiafbgaa (labP)
theorem labE_out {E : List (Int × Int)} {v : Int} (hv : ∀ e ∈ E, e.1 ≠ v ∧ e.2 ≠ v) (w : Int) : labE E w = v ↔ w = v := by
  have h := labE_const (E := E) (fun u => u = v) (fun e he => by
    have := hv e he
    exact propext ⟨fun h => (this.1 h).elim, fun h => (this.2 h).elim⟩) w
  exact iff_of_eq h
/-- The pairs of a loop's edges by which it is folded. -/
def foldP (lo : List Int) : List P4 := exP lo ([((0 : Int), ((lo.length - 1 - lo.length % 2 : Nat) : Int), ((lo.length / 2 : Nat) : Int))].flatMap exR)
theorem fold_run (lo : List Int) : ([((0 : Int), ((lo.length - 1 - lo.length % 2 : Nat) : Int), ((lo.length / 2 : Nat) : Int))].flatMap exR) = (List.range (lo.length / 2)).map fun i : Nat => ((i : Int), ((lo.length - 1 - lo.length % 2 : Nat) : Int) - (i : Int)) := by
  simp [exR]
  rw [show ((lo.length : Int) / 2).toNat = lo.length / 2 by omega]
theorem mem_foldP {lo : List Int} {p : P4} : p ∈ foldP lo ↔ ∃ i, i < lo.length / 2 ∧ p = (edgeL lo i, edgeL lo (lo.length - 1 - lo.length % 2 - i)) := by
  unfold foldP exP
  rw [fold_run, List.map_map, List.mem_map]
  have e : ∀ i : Nat, i < lo.length / 2 → ((((lo.length - 1 - lo.length % 2 : Nat) : Int) - (i : Int)).toNat) = lo.length - 1 - lo.length % 2 - i := fun i hi => by omega
  constructor
  · rintro ⟨i, hi, rfl⟩
    rw [List.mem_range] at hi
    refine ⟨i, hi, ?_⟩
    show (edgeL lo ((i : Int)).toNat, edgeL lo ((((lo.length - 1 - lo.length % 2 : Nat) : Int) - (i : Int)).toNat)) = _
    rw [e i hi, Int.toNat_natCast]
  · rintro ⟨i, hi, rfl⟩
    refine ⟨i, List.mem_range.2 hi, ?_⟩
    show (edgeL lo ((i : Int)).toNat, edgeL lo ((((lo.length - 1 - lo.length % 2 : Nat) : Int) - (i : Int)).toNat)) = _
    rw [e i hi, Int.toNat_natCast]
theorem foldP_len (lo : List Int) : (foldP lo).length = lo.length / 2 := by
  unfold foldP exP
  rw [fold_run, List.length_map, List.length_map, List.length_range]
theorem fold_ok {lo : List Int} (h3 : 3 ≤ lo.length) : okR lo.length ((0 : Int), ((lo.length - 1 - lo.length % 2 : Nat) : Int), ((lo.length / 2 : Nat) : Int)) := by
  unfold okR
  simp only []
  omega
theorem fold_apart (lo : List Int) : (flP ([((0 : Int), ((lo.length - 1 - lo.length % 2 : Nat) : Int), ((lo.length / 2 : Nat) : Int))].flatMap exR)).Nodup := by
  rw [fold_run, flP_nodup]
  constructor
  · rw [List.pairwise_map]
    refine List.Pairwise.imp_of_mem ?_ List.pairwise_lt_range
    intro a b ha hb hab
    rw [List.mem_range] at ha hb
    unfold Apart
    simp only []
    omega
  · intro p hp
    obtain ⟨i, hi, rfl⟩ := List.mem_map.1 hp
    rw [List.mem_range] at hi
    simp only []
    omega
section
variable {N : Int} {T : List T3} {v a : Int}
/-- A loop's vertices. -/
def loI (T : List T3) (N v : Int) : List Int := (loopAt T N v).map fun n : Nat => (n : Int)
theorem loI_len : (loI T N v).length = (loopAt T N v).length := by unfold loI; rw [List.length_map]
theorem loI_get {i : Nat} (hi : i < (loopAt T N v).length) : (loI T N v).getD i 0 = ((loopAt T N v)[i] : Nat) := by
  unfold loI
  rw [List.getD_eq_getElem?_getD, List.getElem?_map, List.getElem?_eq_getElem hi]
  rfl
theorem mem_loI {x : Int} : x ∈ loI T N v ↔ ∃ n ∈ loopAt T N v, (n : Int) = x := by unfold loI; rw [List.mem_map]
theorem mem_loI_nat {x : Nat} : (x : Int) ∈ loI T N v ↔ x ∈ loopAt T N v := by
  rw [mem_loI]
  exact ⟨fun ⟨n, h1, h2⟩ => by have : n = x := by omega
                               exact this ▸ h1, fun h => ⟨x, h, rfl⟩⟩
theorem mem_loI_get {x : Int} : x ∈ loI T N v ↔ ∃ i, i < (loI T N v).length ∧ (loI T N v).getD i 0 = x := by
  constructor
  · intro h
    obtain ⟨i, hi, rfl⟩ := List.getElem_of_mem h
    exact ⟨i, hi, by rw [List.getD_eq_getElem?_getD, List.getElem?_eq_getElem hi]; rfl⟩
  · rintro ⟨i, hi, rfl⟩
    rw [List.getD_eq_getElem?_getD, List.getElem?_eq_getElem hi]
    exact List.getElem_mem hi
theorem Surf.loI_nodup (h : Surf N T) (ha : aftV T v = some a) : (loI T N v).Nodup := by
  unfold loI
  exact nodup_inj (h.loop_is ha).nodup fun a _ b _ e => by have : (a : Int) = (b : Int) := e; omega
theorem Surf.loI_three (h : Surf N T) (ha : aftV T v = some a) : 3 ≤ (loI T N v).length := by rw [loI_len]; exact h.loop_three ha
theorem Surf.loI_step (h : Surf N T) (ha : aftV T v = some a) {i : Nat} (hi : i < (loI T N v).length) : aftV T ((loI T N v).getD i 0) = some ((loI T N v).getD ((i + 1) % (loI T N v).length) 0) := by
  have hL := h.loop_is ha
  rw [loI_len] at hi ⊢
  by_cases h1 : i + 1 < (loopAt T N v).length
  · rw [Nat.mod_eq_of_lt h1, loI_get hi, loI_get h1]
    exact hL.step i _ _ (List.getElem?_eq_getElem hi) (List.getElem?_eq_getElem h1)
  · have e : i + 1 = (loopAt T N v).length := by omega
    rw [e, Nat.mod_self, loI_get hi, loI_get hL.ne]
    have e2 : i = (loopAt T N v).length - 1 := by omega
    have h0 := hL.head
    rw [List.getElem?_eq_getElem hL.ne] at h0
    have h0 := Option.some.inj h0
    have hr := (h.aftV_rng ha).1
    rw [h0, Int.toNat_of_nonneg hr.1]
    exact hL.last _ (by rw [← e2]; exact List.getElem?_eq_getElem hi)
theorem Surf.loI_edge (h : Surf N T) (ha : aftV T v = some a) {i : Nat} (hi : i < (loI T N v).length) : ∃ c, c < 3 * T.length ∧ opp T c = none ∧ eg T c = edgeL (loI T N v) i := by
  obtain ⟨c, h1, h2, h3, h4⟩ := h.aftV_iff.1 (h.loI_step ha hi)
  exact ⟨c, h1, h2, by unfold eg edgeL; rw [h3, h4]⟩
theorem Surf.loI_bedges (h : Surf N T) (ha : aftV T v = some a) : ∀ e ∈ edgs (foldP (loI T N v)), e ∈ bedges T := fun e he => by
  obtain ⟨p, hp, h1⟩ := List.mem_flatMap.1 he
  obtain ⟨i, hi, rfl⟩ := mem_foldP.1 hp
  simp only [List.mem_cons, List.not_mem_nil, or_false] at h1
  rcases h1 with rfl | rfl
  · obtain ⟨c, h1, h2, h3⟩ := h.loI_edge ha (i := i) (by omega)
    exact mem_bedges.2 ⟨c, h1, h2, h3⟩
  · obtain ⟨c, h1, h2, h3⟩ := h.loI_edge ha (i := (loI T N v).length - 1 - (loI T N v).length % 2 - i) (by omega)
    exact mem_bedges.2 ⟨c, h1, h2, h3⟩
/-- All pairs are of border edges, each once. -/
theorem Surf.fold_placed (h : Surf N T) (ha : aftV T v = some a) : placedN (fun e => decide (e ∈ bedges T)) (foldP (loI T N v)) = 0 := by
  have h3 := h.loI_three ha
  have hz := exP_placed (h.loI_nodup ha) (P := [((0 : Int), (((loI T N v).length - 1 - (loI T N v).length % 2 : Nat) : Int), (((loI T N v).length / 2 : Nat) : Int))].flatMap exR) (fun p hp => by
    rw [fold_run] at hp
    obtain ⟨i, hi, rfl⟩ := List.mem_map.1 hp
    rw [List.mem_range] at hi
    simp only []
    omega) (fold_apart _)
  have hz2 := placed_zero hz
  exact placed_ok (List.all_eq_true.2 fun e he => decide_eq_true (h.loI_bedges ha e he)) hz2.2
theorem Surf.lo_next (h : Surf N T) {x b : Int} (hx : x ∈ loI T N v) (hb : aftV T x = some b) : b ∈ loI T N v := by
  obtain ⟨n, hn, rfl⟩ := mem_loI.1 hx
  obtain ⟨⟨a, ha⟩, _⟩ := h.loop_mem_on hn
  have hr := (h.aftV_rng hb).2
  exact mem_loI.2 ⟨b.toNat, (h.loop_is ha).next hn (by rw [hb, Int.toNat_of_nonneg hr.1]), Int.toNat_of_nonneg hr.1⟩
theorem Surf.lo_pre (h : Surf N T) (ha : aftV T v = some a) {x b : Int} (hb : aftV T x = some b) (hm : b ∈ loI T N v) : x ∈ loI T N v := by
  have hn := h.loI_three ha
  obtain ⟨i, hi, rfl⟩ := mem_loI_get.1 hm
  have e : ∃ j, j < (loI T N v).length ∧ (j + 1) % (loI T N v).length = i := by
    rcases Nat.eq_zero_or_pos i with h0 | h0
    · exact ⟨(loI T N v).length - 1, by omega, by rw [show (loI T N v).length - 1 + 1 = (loI T N v).length by omega, Nat.mod_self, h0]⟩
    · exact ⟨i - 1, by omega, by rw [show i - 1 + 1 = i by omega, Nat.mod_eq_of_lt hi]⟩
  obtain ⟨j, hj, rfl⟩ := e
  have := h.loI_step ha hj
  rw [h.aftV_inj hb this]
  exact mem_loI_get.2 ⟨j, hj, rfl⟩
theorem edP_lo {lo : List Int} (h3 : 3 ≤ lo.length) : ∀ e ∈ edP (foldP lo), e.1 ∈ lo ∧ e.2 ∈ lo := fun e he => by
  obtain ⟨p, hp, h1⟩ := List.mem_flatMap.1 he
  obtain ⟨i, hi, rfl⟩ := mem_foldP.1 hp
  have hg : ∀ k, k < lo.length → lo.getD k 0 ∈ lo := fun k hk => by
    rw [List.getD_eq_getElem?_getD, List.getElem?_eq_getElem hk]
    exact List.getElem_mem hk
  simp only [List.mem_cons, List.not_mem_nil, or_false] at h1
  unfold edgeL at h1
  rcases h1 with rfl | rfl
  · exact ⟨hg _ (Nat.mod_lt _ (by omega)), hg _ (by omega)⟩
  · exact ⟨hg _ (by omega), hg _ (Nat.mod_lt _ (by omega))⟩
/-- A loop of an odd number of edges never gives a surface. -/
theorem Surf.fold_odd (h : Surf N T) (ha : aftV T v = some a) (ho : (loI T N v).length % 2 = 1) {N' : Int} : ¬ Surf N' (sewT (labP (foldP (loI T N v))) T) := fun hX => by
  have h3 := h.loI_three ha
  obtain ⟨c, h1, h2, h4⟩ := h.loI_edge ha (i := (loI T N v).length - 1) (by omega)
  have hp : (edgeL (loI T N v) 0, edgeL (loI T N v) ((loI T N v).length - 1 - (loI T N v).length % 2 - 0)) ∈ foldP (loI T N v) := mem_foldP.2 ⟨0, by omega, rfl⟩
  have m2 := labE_one (E := edP (foldP (loI T N v))) _ (List.mem_flatMap.2 ⟨_, hp, List.mem_cons_of_mem _ (List.mem_cons_self ..)⟩)
  have hl := hX.loop3 (c := c) (by rw [sewT_len]; exact h1)
  rw [vt_sew _ _ (nx_lt h1), vt_sew _ _ (pv_lt h1)] at hl
  apply hl
  have e1 : vt T (nx c) = (loI T N v).getD 0 0 := by
    have := congrArg Prod.fst h4
    rw [show (eg T c).1 = vt T (nx c) from rfl] at this
    rw [this]
    show (loI T N v).getD (((loI T N v).length - 1 + 1) % (loI T N v).length) 0 = _
    rw [show (loI T N v).length - 1 + 1 = (loI T N v).length by omega, Nat.mod_self]
  have e2 : vt T (pv c) = (loI T N v).getD ((loI T N v).length - 1) 0 := congrArg Prod.snd h4
  rw [e1, e2]
  have m3 : labE (edP (foldP (loI T N v))) ((loI T N v).getD 0 0) = labE (edP (foldP (loI T N v))) ((loI T N v).getD (((loI T N v).length - 1 - (loI T N v).length % 2 - 0 + 1) % (loI T N v).length) 0) := m2
  rw [show ((loI T N v).length - 1 - (loI T N v).length % 2 - 0 + 1) % (loI T N v).length = (loI T N v).length - 1 by rw [ho, Nat.mod_eq_of_lt (by omega)]; omega] at m3
  unfold numL labP
  rw [m3]
/-- A surface, a loop of it that is folded, what comes. -/
structure Fold (N : Int) (T : List T3) (v a : Int) (N' : Int) : Prop where
  surf : Surf N T
  on : aftV T v = some a
  even : (loI T N v).length % 2 = 0
  sewn : Surf N' (sewT (labP (foldP (loI T N v))) T)
variable {N' : Int}
theorem Fold.out (o : Fold N T v a N') {x : Int} (hx : x ∉ loI T N v) (w : Int) : labP (foldP (loI T N v)) w = x ↔ w = x :=
  labE_out (fun e he => by
    have := edP_lo (o.surf.loI_three o.on) e he
    exact ⟨fun h => hx (h ▸ this.1), fun h => hx (h ▸ this.2)⟩) w
theorem Fold.pos (o : Fold N T v a N') : ∀ x, 0 ≤ x → 0 ≤ labP (foldP (loI T N v)) x := labE_nonneg fun e he => by
  have := edP_lo (o.surf.loI_three o.on) e he
  obtain ⟨n, _, h1⟩ := mem_loI.1 this.1
  obtain ⟨m, _, h2⟩ := mem_loI.1 this.2
  omega
/-- Another vertex keeps to itself. -/
theorem Fold.inj (o : Fold N T v a N') {x w : Int} (hx : x ∉ loI T N v) (h0 : 0 ≤ x) (hw : 0 ≤ w) (he : numL (labP (foldP (loI T N v))) w = numL (labP (foldP (loI T N v))) x) : w = x := by
  have : labP (foldP (loI T N v)) w = labP (foldP (loI T N v)) x := (numL_eq (labE_lab _) o.pos hw h0).1 he
  rw [(o.out hx x).2 rfl] at this
  exact (o.out hx w).1 this
theorem Fold.meet (o : Fold N T v a N') {i : Nat} (hi : i < (loI T N v).length) : ∃ j, j < (loI T N v).length ∧
    numL (labP (foldP (loI T N v))) (edgeL (loI T N v) i).1 = numL (labP (foldP (loI T N v))) (edgeL (loI T N v) j).2 ∧
    numL (labP (foldP (loI T N v))) (edgeL (loI T N v) i).2 = numL (labP (foldP (loI T N v))) (edgeL (loI T N v) j).1 := by
  have h3 := o.surf.loI_three o.on
  have he := o.even
  have hnum : ∀ x y : Int, (x, y) ∈ edP (foldP (loI T N v)) → numL (labP (foldP (loI T N v))) x = numL (labP (foldP (loI T N v))) y := fun x y h => by
    unfold numL labP; rw [labE_one (x, y) h]
  have key : ∀ i, i < (loI T N v).length / 2 → numL (labP (foldP (loI T N v))) (edgeL (loI T N v) i).1 = numL (labP (foldP (loI T N v))) (edgeL (loI T N v) ((loI T N v).length - 1 - i)).2 ∧
    numL (labP (foldP (loI T N v))) (edgeL (loI T N v) i).2 = numL (labP (foldP (loI T N v))) (edgeL (loI T N v) ((loI T N v).length - 1 - i)).1 := fun i hi => by
    have hp : (edgeL (loI T N v) i, edgeL (loI T N v) ((loI T N v).length - 1 - (loI T N v).length % 2 - i)) ∈ foldP (loI T N v) := mem_foldP.2 ⟨i, hi, rfl⟩
    rw [he] at hp
    exact ⟨hnum _ _ (List.mem_flatMap.2 ⟨_, hp, List.mem_cons_self ..⟩), hnum _ _ (List.mem_flatMap.2 ⟨_, hp, List.mem_cons_of_mem _ (List.mem_cons_self ..)⟩)⟩
  by_cases hh : i < (loI T N v).length / 2
  · exact ⟨(loI T N v).length - 1 - i, by omega, key i hh⟩
  · have := key ((loI T N v).length - 1 - i) (by omega)
    rw [show (loI T N v).length - 1 - ((loI T N v).length - 1 - i) = i by omega] at this
    exact ⟨(loI T N v).length - 1 - i, by omega, this.2.symm, this.1.symm⟩
theorem Fold.opp_of (o : Fold N T v a N') {c d : Nat} (hc : c < 3 * T.length) (hd : d < 3 * T.length)
    (h1 : numL (labP (foldP (loI T N v))) (vt T (nx d)) = numL (labP (foldP (loI T N v))) (vt T (pv c))) (h2 : numL (labP (foldP (loI T N v))) (vt T (pv d)) = numL (labP (foldP (loI T N v))) (vt T (nx c))) :
    opp (sewT (labP (foldP (loI T N v))) T) c = some d := by
  refine o.sewn.opp_iff.2 ⟨by rw [sewT_len]; exact hd, ?_, ?_⟩
  · rw [vt_sew _ _ (nx_lt hd), vt_sew _ _ (pv_lt hc)]; exact h1
  · rw [vt_sew _ _ (pv_lt hd), vt_sew _ _ (nx_lt hc)]; exact h2
/-- Which corners face the border now. -/
theorem Fold.bord (o : Fold N T v a N') {c : Nat} (hc : c < 3 * T.length) : opp (sewT (labP (foldP (loI T N v))) T) c = none ↔ opp T c = none ∧ vt T (pv c) ∉ loI T N v := by
  have h := o.surf
  constructor
  · intro hX
    have hT : opp T c = none := by
      cases hT : opp T c with
      | none => rfl
      | some d =>
        obtain ⟨h1, h2, h3⟩ := h.opp_iff.1 hT
        rw [o.opp_of hc h1 (by rw [h2]) (by rw [h3])] at hX
        cases hX
    refine ⟨hT, fun hm => ?_⟩
    obtain ⟨i, hi, he⟩ := mem_loI_get.1 hm
    have haf : aftV T (vt T (pv c)) = some (vt T (nx c)) := h.aftV_iff.2 ⟨c, hc, hT, rfl, rfl⟩
    have hst := h.loI_step o.on hi
    rw [he, haf] at hst
    have hst := Option.some.inj hst
    obtain ⟨j, hj, m1, m2⟩ := o.meet hi
    obtain ⟨d, hd, hdo, hde⟩ := h.loI_edge o.on hj
    have e1 : vt T (nx d) = (edgeL (loI T N v) j).1 := congrArg Prod.fst hde
    have e2 : vt T (pv d) = (edgeL (loI T N v) j).2 := congrArg Prod.snd hde
    have e3 : vt T (nx c) = (edgeL (loI T N v) i).1 := hst
    have e4 : vt T (pv c) = (edgeL (loI T N v) i).2 := he.symm
    rw [o.opp_of hc hd (by rw [e1, e4, m2]) (by rw [e2, e3, m1])] at hX
    cases hX
  · rintro ⟨hT, hm⟩
    cases hX : opp (sewT (labP (foldP (loI T N v))) T) c with
    | none => rfl
    | some d =>
      exfalso
      obtain ⟨h1, h2, h3⟩ := o.sewn.opp_iff.1 hX
      rw [sewT_len] at h1
      rw [vt_sew _ _ (nx_lt h1), vt_sew _ _ (pv_lt hc)] at h2
      rw [vt_sew _ _ (pv_lt h1), vt_sew _ _ (nx_lt hc)] at h3
      have haf : aftV T (vt T (pv c)) = some (vt T (nx c)) := h.aftV_iff.2 ⟨c, hc, hT, rfl, rfl⟩
      have hm2 : vt T (nx c) ∉ loI T N v := fun h9 => hm (h.lo_pre o.on haf h9)
      have g1 := o.inj hm (h.rng _ (pv_lt hc)).1 (h.rng _ (nx_lt h1)).1 h2
      have g2 := o.inj hm2 (h.rng _ (nx_lt hc)).1 (h.rng _ (pv_lt h1)).1 h3
      rw [h.opp_iff.2 ⟨h1, g1, g2⟩] at hT
      cases hT
theorem Fold.aft (o : Fold N T v a N') {x b : Int} (hx : x ∉ loI T N v) (hb : aftV T x = some b) : aftV (sewT (labP (foldP (loI T N v))) T) (numL (labP (foldP (loI T N v))) x) = some (numL (labP (foldP (loI T N v))) b) := by
  obtain ⟨c, h1, h2, rfl, rfl⟩ := o.surf.aftV_iff.1 hb
  exact o.sewn.aftV_iff.2 ⟨c, by rw [sewT_len]; exact h1, (o.bord h1).2 ⟨h2, hx⟩, vt_sew _ _ (pv_lt h1), vt_sew _ _ (nx_lt h1)⟩
theorem Fold.back (o : Fold N T v a N') {y z : Int} (hy : aftV (sewT (labP (foldP (loI T N v))) T) y = some z) : ∃ x b, x ∉ loI T N v ∧ aftV T x = some b ∧ y = numL (labP (foldP (loI T N v))) x ∧ z = numL (labP (foldP (loI T N v))) b := by
  obtain ⟨c, h1, h2, rfl, rfl⟩ := o.sewn.aftV_iff.1 hy
  rw [sewT_len] at h1
  obtain ⟨h3, h4⟩ := (o.bord h1).1 h2
  exact ⟨_, _, h4, o.surf.aftV_iff.2 ⟨c, h1, h3, rfl, rfl⟩, vt_sew _ _ (pv_lt h1), vt_sew _ _ (nx_lt h1)⟩
/-- Who comes behind on the new loop came behind on the old one. -/
theorem Fold.loop (o : Fold N T v a N') {s : Int} {x y z : Nat} (hx : x ∈ loopAt T N s) (hn : (x : Int) ∉ loI T N v) (hy : (y : Int) = numL (labP (foldP (loI T N v))) x) (hz : z ∈ loopAt (sewT (labP (foldP (loI T N v))) T) N' (y : Int)) :
    ∃ u ∈ loopAt T N s, (u : Int) ∉ loI T N v ∧ (z : Int) = numL (labP (foldP (loI T N v))) u := by
  have h := o.surf
  obtain ⟨⟨b, hb⟩, _⟩ := o.sewn.loop_mem_on hz
  have hM := o.sewn.loop_is hb
  refine hM.closed o.sewn (fun z => ∃ u ∈ loopAt T N s, (u : Int) ∉ loI T N v ∧ (z : Int) = numL (labP (foldP (loI T N v))) u) (fun c d ⟨u, hu, hun, hc⟩ hd => ?_) (o.sewn.loop_self hb) ⟨x, hx, hn, hy⟩ z hz
  obtain ⟨x2, b2, h1, h2, h3, h4⟩ := o.back hd
  have hr2 := h.aftV_rng h2
  have e : (u : Int) = x2 := o.inj h1 hr2.1.1 (by omega) (by rw [← hc, h3])
  subst e
  obtain ⟨⟨a9, ha9⟩, _⟩ := h.loop_mem_on hu
  exact ⟨b2.toNat, (h.loop_is ha9).next hu (by rw [h2, Int.toNat_of_nonneg hr2.2.1]), by rw [Int.toNat_of_nonneg hr2.2.1]; exact fun h9 => h1 (h.lo_pre o.on h2 h9), by rw [Int.toNat_of_nonneg hr2.2.1]; exact h4⟩
/-- Who came behind on an old loop comes behind on the new one. -/
theorem Fold.loop2 (o : Fold N T v a N') {s : Int} {x u z : Nat} (hz : z ∈ loopAt (sewT (labP (foldP (loI T N v))) T) N' s) (hn : (x : Int) ∉ loI T N v) (hy : (z : Int) = numL (labP (foldP (loI T N v))) x) (hu : u ∈ loopAt T N (x : Int)) :
    (u : Int) ∉ loI T N v ∧ ∃ y ∈ loopAt (sewT (labP (foldP (loI T N v))) T) N' s, (y : Int) = numL (labP (foldP (loI T N v))) u := by
  have h := o.surf
  obtain ⟨⟨b, hb⟩, _⟩ := h.loop_mem_on hu
  have hL := h.loop_is hb
  refine hL.closed h (fun u => (u : Int) ∉ loI T N v ∧ ∃ y ∈ loopAt (sewT (labP (foldP (loI T N v))) T) N' s, (y : Int) = numL (labP (foldP (loI T N v))) u) (fun c d ⟨hc, y, hy, hyc⟩ hd => ?_) (h.loop_self hb) ⟨hn, z, hz, hy⟩ u hu
  have h1 := o.aft hc hd
  have hr := (o.sewn.aftV_rng h1).2
  obtain ⟨⟨a9, ha9⟩, _⟩ := o.sewn.loop_mem_on hy
  refine ⟨fun h9 => hc (h.lo_pre o.on hd h9), (numL (labP (foldP (loI T N v))) d).toNat, (o.sewn.loop_is ha9).next hy ?_, Int.toNat_of_nonneg hr.1⟩
  rw [hyc, h1, Int.toNat_of_nonneg hr.1]
/-- One loop less. -/
theorem Fold.loops (o : Fold N T v a N') : (lps (sewT (labP (foldP (loI T N v))) T) N' N'.toNat).length + 1 = (lps T N N.toNat).length := by
  have h := o.surf
  have hX := o.sewn
  have hin : ∀ L ∈ lps T N N.toNat, ∃ u : Nat, L = loopAt T N (u : Int) ∧ ∃ a, aftV T (u : Int) = some a := fun L hL => by
    obtain ⟨_, u, _, e, k⟩ := h.lps_each _ L hL
    exact ⟨u, e, k⟩
  have hinX : ∀ M ∈ lps (sewT (labP (foldP (loI T N v))) T) N' N'.toNat, ∃ u : Nat, M = loopAt (sewT (labP (foldP (loI T N v))) T) N' (u : Int) ∧ ∃ a, aftV (sewT (labP (foldP (loI T N v))) T) (u : Int) = some a := fun L hL => by
    obtain ⟨_, u, _, e, k⟩ := hX.lps_each _ L hL
    exact ⟨u, e, k⟩
  have hrv := (h.aftV_rng o.on).1
  have hvv : ((v.toNat : Nat) : Int) = v := Int.toNat_of_nonneg hrv.1
  have hself : v.toNat ∈ loopAt T N v := List.mem_of_getElem? (h.loop_is o.on).head
  let R : Option (List Nat) → List Nat → Prop := fun q L => match q with
    | none => ∃ x ∈ L, (x : Int) ∈ loI T N v
    | some M => ∃ x ∈ L, (x : Int) ∉ loI T N v ∧ ∃ y ∈ M, ((y : Nat) : Int) = numL (labP (foldP (loI T N v))) ((x : Nat) : Int)
  have hl1 : (none :: (lps (sewT (labP (foldP (loI T N v))) T) N' N'.toNat).map some).length = (lps (sewT (labP (foldP (loI T N v))) T) N' N'.toNat).length + 1 := by simp
  rw [← hl1]
  apply Nat.le_antisymm
  · refine len_rel R _ _ (fun q hq => ?_) ?_
    · rcases List.mem_cons.1 hq with rfl | hq
      · obtain ⟨L, hL, hm⟩ := List.mem_flatten.1 ((h.lps_all v.toNat).2 ⟨_, by rw [hvv]; exact o.on⟩)
        exact ⟨L, hL, _, hm, mem_loI_nat.2 hself⟩
      · obtain ⟨M, hM, rfl⟩ := List.mem_map.1 hq
        obtain ⟨u, rfl, b, hb⟩ := hinX M hM
        obtain ⟨x, b2, h1, h2, h3, h4⟩ := o.back hb
        have hr := (h.aftV_rng h2).1
        obtain ⟨L, hL, hm⟩ := List.mem_flatten.1 ((h.lps_all x.toNat).2 ⟨_, by rw [Int.toNat_of_nonneg hr.1]; exact h2⟩)
        exact ⟨L, hL, x.toNat, hm, by rw [Int.toNat_of_nonneg hr.1]; exact h1, u, hX.loop_self hb, by rw [Int.toNat_of_nonneg hr.1]; exact h3⟩
    · rw [List.pairwise_cons]
      constructor
      · rintro q hq L hL ⟨x, hx, hxl⟩ hR
        obtain ⟨M, hM, rfl⟩ := List.mem_map.1 hq
        obtain ⟨x', hx', hn', -⟩ := hR
        obtain ⟨u, rfl, -⟩ := hin L hL
        refine hn' (mem_loI_nat.2 ?_)
        have h1 := mem_loI_nat.1 hxl
        exact (h.loop_same h1 x').1 ((h.loop_same hx x').2 hx')
      · rw [List.pairwise_map]
        refine List.Pairwise.imp_of_mem ?_ (nodup_apart (hX.lps_nodup N'.toNat))
        rintro M M' hM hM' hap L hL ⟨x, hx, hn, y, hy, e⟩ ⟨x', hx', hn', y', hy', e'⟩
        obtain ⟨u, rfl, -⟩ := hin L hL
        obtain ⟨w, rfl, b, hb⟩ := hinX M hM
        obtain ⟨_, y2, hy2, e2⟩ := o.loop2 hy hn e ((h.loop_same hx x').2 hx')
        have : y2 = y' := by omega
        subst this
        exact hap _ hy2 _ hy' rfl
  · refine len_rel (fun L q => R q L) _ _ (fun L hL => ?_) ?_
    · obtain ⟨u, rfl, b, hb⟩ := hin L hL
      by_cases hu : (u : Int) ∈ loI T N v
      · exact ⟨none, List.mem_cons_self .., u, h.loop_self hb, hu⟩
      · have h1 := o.aft hu hb
        have hr := (hX.aftV_rng h1).1
        obtain ⟨M, hM, hm⟩ := List.mem_flatten.1 ((hX.lps_all (numL (labP (foldP (loI T N v))) u).toNat).2 ⟨_, by rw [Int.toNat_of_nonneg hr.1]; exact h1⟩)
        exact ⟨some M, List.mem_cons_of_mem _ (List.mem_map_of_mem hM), u, h.loop_self hb, hu, _, hm, Int.toNat_of_nonneg hr.1⟩
    · refine List.Pairwise.imp_of_mem ?_ (nodup_apart (h.lps_nodup N.toNat))
      intro L L' hL hL' hap q hq hR hR'
      obtain ⟨u, rfl, -⟩ := hin L hL
      obtain ⟨u', rfl, -⟩ := hin L' hL'
      rcases List.mem_cons.1 hq with rfl | hq
      · obtain ⟨x, hx, hxl⟩ := hR
        obtain ⟨x', hx', hxl'⟩ := hR'
        have h1 := (h.loop_same (mem_loI_nat.1 hxl) x').2 (mem_loI_nat.1 hxl')
        exact hap x' ((h.loop_same hx x').1 h1) x' hx' rfl
      · obtain ⟨M, hM, rfl⟩ := List.mem_map.1 hq
        obtain ⟨x, hx, hn, y, hy, e⟩ := hR
        obtain ⟨x', hx', hn', y', hy', e'⟩ := hR'
        obtain ⟨w, rfl, b, hb⟩ := hinX M hM
        obtain ⟨x2, hx2, hn2, e2⟩ := o.loop hx hn e ((hX.loop_same hy y').2 hy')
        have : (x2 : Int) = x' := o.inj hn' (by omega) (by omega) (by rw [← e2, e'])
        have : x2 = x' := by omega
        subst this
        exact hap _ hx2 _ hx' rfl
end
end Go.Mesh
