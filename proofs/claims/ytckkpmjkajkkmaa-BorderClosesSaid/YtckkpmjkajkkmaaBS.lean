/- A hole of three, closed: plain laws. -/
import Derived.Test.YtckkpmjkajkkmaaBQ
namespace Go.Mesh
theorem vt_app {T : List T3} {t : T3} {c : Nat} (h : c < 3 * T.length) : vt (T ++ [t]) c = vt T c := by
  unfold vt
  rw [List.getD_eq_getElem?_getD, List.getD_eq_getElem?_getD, List.getElem?_append_left (by omega)]
theorem vt_new {T : List T3} {t : T3} {k : Nat} (h : k < 3) : vt (T ++ [t]) (3 * T.length + k) = vx t k := by
  unfold vt
  rw [show (3 * T.length + k) / 3 = T.length by omega, show (3 * T.length + k) % 3 = k by omega, List.getD_eq_getElem?_getD, List.getElem?_append_right (Nat.le_refl _), Nat.sub_self]
  rfl
theorem app_len (T : List T3) (t : T3) : (T ++ [t]).length = T.length + 1 := by simp
section
variable {N : Int} {T : List T3}
theorem Surf.no_eg (h : Surf N T) {v a : Int} (ha : aftV T v = some a) : ∀ c, c < 3 * T.length → eg T c ≠ (v, a) := by
  obtain ⟨c, h1, h2, rfl, rfl⟩ := h.aftV_iff.1 ha
  unfold opp at h2
  exact facing_none.1 h2
/-- Three vertices that are a border loop. -/
structure Hole (N : Int) (T : List T3) (t : T3) : Prop where
  surf : Surf N T
  few : T.length ≤ 8191
  aft : ∀ k, k < 3 → aftV T (vx t k) = some (vx t ((k + 1) % 3))
  off : ∀ i, i < T.length → ¬ ∀ k, k < 3 → ∃ m, m < 3 ∧ vt T (3 * i + k) = vx t m
variable {t : T3}
theorem Hole.ne (o : Hole N T t) {k j : Nat} (hk : k < 3) (hj : j < 3) (hkj : k ≠ j) : vx t k ≠ vx t j := by
  have h0 := (o.surf.two_ne (o.aft 0 (by omega))).1
  have h1 := (o.surf.two_ne (o.aft 1 (by omega))).1
  have h2 := (o.surf.two_ne (o.aft 2 (by omega))).1
  have c1 : k = 0 ∨ k = 1 ∨ k = 2 := by omega
  have c2 : j = 0 ∨ j = 1 ∨ j = 2 := by omega
  rcases c1 with rfl | rfl | rfl <;> rcases c2 with rfl | rfl | rfl <;> first | exact absurd rfl hkj | exact h0 | exact h1 | exact h2 | exact h0.symm | exact h1.symm | exact h2.symm
theorem Hole.inj (o : Hole N T t) {k j : Nat} (hk : k < 3) (hj : j < 3) (e : vx t k = vx t j) : k = j := by
  apply Classical.byContradiction
  intro hne
  exact o.ne hk hj hne e
theorem new_split {n c : Nat} (hc : c < 3 * (n + 1)) : c < 3 * n ∨ ∃ k, k < 3 ∧ c = 3 * n + k := by
  rcases Nat.lt_or_ge c (3 * n) with h | h
  · exact .inl h
  · exact .inr ⟨c - 3 * n, by omega, by omega⟩
theorem nx_new (n : Nat) {k : Nat} (hk : k < 3) : nx (3 * n + k) = 3 * n + (k + 1) % 3 := by unfold nx; omega
theorem pv_new (n : Nat) {k : Nat} (hk : k < 3) : pv (3 * n + k) = 3 * n + (k + 2) % 3 := by unfold pv; omega
theorem eg_old {c : Nat} (h : c < 3 * T.length) : eg (T ++ [t]) c = eg T c := by unfold eg; rw [vt_app (nx_lt h), vt_app (pv_lt h)]
theorem eg_new {k : Nat} (h : k < 3) : eg (T ++ [t]) (3 * T.length + k) = (vx t ((k + 1) % 3), vx t ((k + 2) % 3)) := by
  unfold eg
  rw [nx_new _ h, pv_new _ h, vt_new (by omega), vt_new (by omega)]
theorem mod_two (k : Nat) : (k + 2) % 3 = ((k + 1) % 3 + 1) % 3 := by omega
/-- A new corner shares a vertex with an old one at its vertex. -/
theorem Hole.near (o : Hole N T t) {k : Nat} (hk : k < 3) : ∃ d, d < 3 * T.length ∧ vt T d = vx t k ∧ share (T ++ [t]) (3 * T.length + k) d ∧ share (T ++ [t]) d (3 * T.length + k) := by
  obtain ⟨c, h1, h2, h3, h4⟩ := o.surf.aftV_iff.1 (o.aft k hk)
  have e1 : vt (T ++ [t]) (nx (3 * T.length + k)) = vx t ((k + 1) % 3) := by rw [nx_new _ hk, vt_new (by omega)]
  have e2 : vt (T ++ [t]) (pv (pv c)) = vx t ((k + 1) % 3) := by rw [pv_pv, vt_app (nx_lt h1), h4]
  exact ⟨pv c, pv_lt h1, h3, .inr (.inl (by rw [e1, e2])), .inr (.inr (.inl (by rw [e1, e2])))⟩
theorem Hole.closed (o : Hole N T t) : Surf N (T ++ [t]) := by
  have h := o.surf
  have hl := app_len T t
  have hrt : ∀ k, k < 3 → 0 ≤ vx t k ∧ vx t k < N := fun k hk => (h.aftV_rng (o.aft k hk)).1
  refine ⟨h.n0, h.nmax, by rw [hl]; have := o.few; omega, fun c hc => ?_, fun c hc => ?_, fun c d hc hd e => ?_, fun i j hij hj hall => ?_, fun v h0 h1 => ?_, fun v h0 h1 => ?_⟩
  · rw [hl] at hc
    rcases new_split hc with h1 | ⟨k, hk, rfl⟩
    · rw [vt_app h1]; exact h.rng c h1
    · rw [vt_new hk]; exact hrt k hk
  · rw [hl] at hc
    rcases new_split hc with h1 | ⟨k, hk, rfl⟩
    · rw [vt_app h1, vt_app (nx_lt h1)]; exact h.loop c h1
    · rw [nx_new _ hk, vt_new hk, vt_new (by omega)]
      exact o.ne hk (by omega) (by omega)
  · rw [hl] at hc hd
    rcases new_split hc with h1 | ⟨k, hk, rfl⟩ <;> rcases new_split hd with h2 | ⟨j, hj, rfl⟩
    · rw [eg_old h1, eg_old h2] at e; exact h.once c d h1 h2 e
    · rw [eg_old h1, eg_new hj] at e
      have := h.no_eg (o.aft ((j + 1) % 3) (by omega)) c h1
      rw [← mod_two j] at this
      exact absurd e this
    · rw [eg_old h2, eg_new hk] at e
      have := h.no_eg (o.aft ((k + 1) % 3) (by omega)) d h2
      rw [← mod_two k] at this
      exact absurd e.symm this
    · rw [eg_new hk, eg_new hj] at e
      have := o.inj (by omega) (by omega) (Prod.mk.inj e).1
      have : k = j := by omega
      rw [this]
  · rw [hl] at hj
    rcases Nat.lt_or_ge j T.length with h1 | h1
    · refine h.mirror i j hij h1 fun k hk => ?_
      obtain ⟨m, hm, e⟩ := hall k hk
      rw [vt_app (by omega), vt_app (by omega)] at e
      exact ⟨m, hm, e⟩
    · obtain rfl : j = T.length := by omega
      refine o.off i hij fun k hk => ?_
      obtain ⟨m, hm, e⟩ := hall k hk
      rw [vt_app (by omega), vt_new hm] at e
      exact ⟨m, hm, e⟩
  · obtain ⟨c, hc, e⟩ := h.used v h0 h1
    exact ⟨c, by rw [hl]; omega, by rw [vt_app hc]; exact e⟩
  · intro P ⟨c0, hc0, hv0, hP0⟩ hs
    have hold : ∃ c, c < 3 * T.length ∧ vt T c = v ∧ P c := by
      rw [hl] at hc0
      rcases new_split hc0 with h2 | ⟨k, hk, rfl⟩
      · exact ⟨c0, h2, by rw [← vt_app (t := t) h2]; exact hv0, hP0⟩
      · rw [vt_new hk] at hv0
        obtain ⟨d, d1, d2, d3, _⟩ := o.near hk
        exact ⟨d, d1, by rw [d2]; exact hv0, hs _ _ (by rw [hl]; omega) (by rw [vt_new hk]; exact hv0) (by rw [hl]; omega) (by rw [vt_app d1, d2]; exact hv0) hP0 d3⟩
    have hall := h.fan v h0 h1 P hold fun c d hc hcv hd hdv hPc hsh => by
      refine hs c d (by rw [hl]; omega) (by rw [vt_app hc]; exact hcv) (by rw [hl]; omega) (by rw [vt_app hd]; exact hdv) hPc ?_
      unfold share at hsh ⊢
      rw [vt_app (nx_lt hc), vt_app (nx_lt hd), vt_app (pv_lt hc), vt_app (pv_lt hd)]
      exact hsh
    intro c hc hv
    rw [hl] at hc
    rcases new_split hc with h2 | ⟨k, hk, rfl⟩
    · rw [vt_app h2] at hv; exact hall c h2 hv
    · rw [vt_new hk] at hv
      obtain ⟨d, d1, d2, _, d4⟩ := o.near hk
      exact hs d _ (by rw [hl]; omega) (by rw [vt_app d1, d2]; exact hv) (by rw [hl]; omega) (by rw [vt_new hk]; exact hv) (hall d d1 (by rw [d2]; exact hv)) d4
/-- The hole's vertices are on no border then; all others are as they were. -/
theorem Hole.aft_iff (o : Hole N T t) {v a : Int} : aftV (T ++ [t]) v = some a ↔ aftV T v = some a ∧ ∀ k, k < 3 → vx t k ≠ v := by
  have h := o.surf
  have hl := app_len T t
  rw [o.closed.aftV_iff]
  constructor
  · rintro ⟨c, hc, ho, hv, hx⟩
    rw [hl] at hc
    unfold opp at ho
    have hno := facing_none.1 ho
    rcases new_split hc with h1 | ⟨k, hk, rfl⟩
    · rw [vt_app (pv_lt h1)] at hv
      rw [vt_app (nx_lt h1)] at hx
      rw [vt_app (pv_lt h1), vt_app (nx_lt h1), hv, hx] at hno
      have hT : opp T c = none := by
        unfold opp
        rw [hv, hx]
        refine facing_none.2 fun d hd => ?_
        have := hno d (by rw [hl]; omega)
        rwa [eg_old hd] at this
      refine ⟨h.aftV_iff.2 ⟨c, h1, hT, hv, hx⟩, fun k hk e => ?_⟩
      have ha := o.aft k hk
      rw [e, h.aftV_iff.2 ⟨c, h1, hT, hv, hx⟩] at ha
      have := hno (3 * T.length + (k + 2) % 3) (by rw [hl]; omega)
      rw [eg_new (by omega)] at this
      have e1 : ((k + 2) % 3 + 1) % 3 = k := by omega
      have e2 : ((k + 2) % 3 + 2) % 3 = (k + 1) % 3 := by omega
      rw [e1, e2, e, Option.some.inj ha] at this
      exact this rfl
    · exfalso
      rw [nx_new _ hk, pv_new _ hk, vt_new (by omega), vt_new (by omega)] at hno
      obtain ⟨c, h1, _, h3, h4⟩ := h.aftV_iff.1 (o.aft ((k + 1) % 3) (by omega))
      rw [← mod_two k] at h4
      have := hno c (by rw [hl]; omega)
      rw [eg_old h1] at this
      exact this (by unfold eg; rw [h3, h4])
  · rintro ⟨ha, hne⟩
    obtain ⟨c, h1, h2, h3, h4⟩ := h.aftV_iff.1 ha
    refine ⟨c, by rw [hl]; omega, ?_, by rw [vt_app (pv_lt h1)]; exact h3, by rw [vt_app (nx_lt h1)]; exact h4⟩
    unfold opp at h2 ⊢
    rw [vt_app (pv_lt h1), vt_app (nx_lt h1)]
    refine facing_none.2 fun d hd => ?_
    rw [hl] at hd
    rcases new_split hd with g1 | ⟨k, hk, rfl⟩
    · rw [eg_old g1]; exact facing_none.1 h2 d g1
    · rw [eg_new hk, h3]
      intro e
      exact hne _ (by omega) (Prod.mk.inj e).1
theorem mem3 (t : T3) (v : Int) : v ∈ [vx t 0, vx t 1, vx t 2] ↔ ∃ k, k < 3 ∧ vx t k = v := by
  simp only [List.mem_cons, List.not_mem_nil, or_false]
  constructor
  · rintro (rfl | rfl | rfl)
    · exact ⟨0, by omega, rfl⟩
    · exact ⟨1, by omega, rfl⟩
    · exact ⟨2, by omega, rfl⟩
  · rintro ⟨k, hk, rfl⟩
    have : k = 0 ∨ k = 1 ∨ k = 2 := by omega
    rcases this with rfl | rfl | rfl <;> simp
/-- Three border edges less. -/
theorem Hole.edges (o : Hole N T t) : (bedges (T ++ [t])).length + 3 = (bedges T).length := by
  have hn : ([vx t 0, vx t 1, vx t 2] ++ (bedges (T ++ [t])).map (·.2)).Nodup := by
    rw [List.nodup_append]
    refine ⟨?_, o.closed.bedges_nodup, fun a ha b hb e => ?_⟩
    · have n01 := o.ne (k := 0) (j := 1) (by omega) (by omega) (by omega)
      have n02 := o.ne (k := 0) (j := 2) (by omega) (by omega) (by omega)
      have n12 := o.ne (k := 1) (j := 2) (by omega) (by omega) (by omega)
      simp [n01, n02, n12]
    · subst e
      obtain ⟨b, hb⟩ := (o.closed.aft_dom a).1 hb
      obtain ⟨k, hk, e⟩ := (mem3 t a).1 ha
      exact (o.aft_iff.1 hb).2 k hk e
  have hp := ((List.perm_ext_iff_of_nodup hn o.surf.bedges_nodup).2 fun x => by
    rw [List.mem_append, mem3, o.closed.aft_dom, o.surf.aft_dom]
    constructor
    · rintro (⟨k, hk, rfl⟩ | ⟨b, hb⟩)
      · exact ⟨_, o.aft k hk⟩
      · exact ⟨b, (o.aft_iff.1 hb).1⟩
    · rintro ⟨b, hb⟩
      by_cases hx : ∃ k, k < 3 ∧ vx t k = x
      · exact .inl hx
      · exact .inr ⟨b, o.aft_iff.2 ⟨hb, fun k hk e => hx ⟨k, hk, e⟩⟩⟩).length_eq
  rw [List.length_append, List.length_map, List.length_map] at hp
  simp only [List.length_cons, List.length_nil] at hp
  omega
/-- Who was on a loop with one that still is on the border is on a loop with it now. -/
theorem Hole.loop_sub (o : Hole N T t) {a : Nat} {b : Int} (ha : aftV (T ++ [t]) (a : Int) = some b) {y : Nat} (hy : y ∈ loopAt T N (a : Int)) : y ∈ loopAt (T ++ [t]) N (a : Int) := by
  have h1 := (o.aft_iff.1 ha).1
  have hL := o.surf.loop_is h1
  refine hL.closed o.surf (fun c => c ∈ loopAt (T ++ [t]) N (a : Int)) (fun c d hc hd => ?_) (o.surf.loop_self h1) (o.closed.loop_self ha) y hy
  obtain ⟨_, b2, hb2⟩ := o.closed.loop_mem_on hc
  have hb3 := (o.aft_iff.1 hb2).1
  rw [hd] at hb3
  rw [← hb3] at hb2
  exact (o.closed.loop_is ha).next hc hb2
theorem Hole.loop_sup (o : Hole N T t) {v : Int} {y : Nat} (hy : y ∈ loopAt (T ++ [t]) N v) : y ∈ loopAt T N v := by
  obtain ⟨⟨b, hb⟩, _⟩ := o.closed.loop_mem_on hy
  have hM := o.closed.loop_is hb
  have h1 := (o.aft_iff.1 hb).1
  have hr := (o.surf.aftV_rng h1).1
  have hself : v.toNat ∈ loopAt T N v := List.mem_of_getElem? (o.surf.loop_is h1).head
  exact hM.closed o.closed (fun c => c ∈ loopAt T N v) (fun c d hc hd => (o.surf.loop_is h1).next hc (o.aft_iff.1 hd).1) (List.mem_of_getElem? hM.head) hself y hy
/-- One loop less. -/
theorem Hole.loops (o : Hole N T t) : (lps (T ++ [t]) N N.toNat).length + 1 = (lps T N N.toNat).length := by
  have h := o.surf
  have hX := o.closed
  have hrt : ∀ k, k < 3 → 0 ≤ vx t k ∧ vx t k < N := fun k hk => (h.aftV_rng (o.aft k hk)).1
  have hx0 : (((vx t 0).toNat : Nat) : Int) = vx t 0 := Int.toNat_of_nonneg (hrt 0 (by omega)).1
  have hx1 : (((vx t 1).toNat : Nat) : Int) = vx t 1 := Int.toNat_of_nonneg (hrt 1 (by omega)).1
  have hx2 : (((vx t 2).toNat : Nat) : Int) = vx t 2 := Int.toNat_of_nonneg (hrt 2 (by omega)).1
  have hin : ∀ L ∈ lps T N N.toNat, ∃ u : Nat, L = loopAt T N (u : Int) ∧ ∃ a, aftV T (u : Int) = some a := fun L hL => by
    obtain ⟨_, u, _, e, k⟩ := h.lps_each _ L hL
    exact ⟨u, e, k⟩
  have hinX : ∀ L ∈ lps (T ++ [t]) N N.toNat, ∃ u : Nat, L = loopAt (T ++ [t]) N (u : Int) ∧ ∃ a, aftV (T ++ [t]) (u : Int) = some a := fun L hL => by
    obtain ⟨_, u, _, e, k⟩ := hX.lps_each _ L hL
    exact ⟨u, e, k⟩
  -- the hole's own loop
  have hL0 : aftV T (((vx t 0).toNat : Nat) : Int) = some (vx t 1) := by rw [hx0]; exact o.aft 0 (by omega)
  have hself := h.loop_self hL0
  have hH : ∀ y : Nat, y ∈ loopAt T N (((vx t 0).toNat : Nat) : Int) ↔ ∃ k, k < 3 ∧ vx t k = (y : Int) := fun y => by
    constructor
    · exact fun hy => (h.loop_is hL0).closed h (fun c => ∃ k, k < 3 ∧ vx t k = (c : Int)) (fun c d ⟨k, hk, e⟩ hd => by
        rw [← e, o.aft k hk] at hd
        exact ⟨(k + 1) % 3, by omega, Option.some.inj hd⟩) hself ⟨0, by omega, hx0.symm⟩ y hy
    · rintro ⟨k, hk, e⟩
      have m1 : (vx t 1).toNat ∈ loopAt T N (((vx t 0).toNat : Nat) : Int) := (h.loop_is hL0).next hself (by rw [hx0, hx1]; exact o.aft 0 (by omega))
      have m2 : (vx t 2).toNat ∈ loopAt T N (((vx t 0).toNat : Nat) : Int) := (h.loop_is hL0).next m1 (by rw [hx1, hx2]; exact o.aft 1 (by omega))
      have : k = 0 ∨ k = 1 ∨ k = 2 := by omega
      rcases this with rfl | rfl | rfl
      · rw [show y = (vx t 0).toNat by omega]; exact hself
      · rw [show y = (vx t 1).toNat by omega]; exact m1
      · rw [show y = (vx t 2).toNat by omega]; exact m2
  apply Nat.le_antisymm
  · rw [← List.length_cons (a := loopAt T N (((vx t 0).toNat : Nat) : Int))]
    refine len_rel (fun (M L : List Nat) => ∃ x ∈ M, x ∈ L) _ _ (fun M hM => ?_) ?_
    · rcases List.mem_cons.1 hM with rfl | hM
      · obtain ⟨L, hL, hm⟩ := List.mem_flatten.1 ((h.lps_all _).2 ⟨_, hL0⟩)
        exact ⟨L, hL, _, hself, hm⟩
      · obtain ⟨u, rfl, a, ha⟩ := hinX M hM
        obtain ⟨L, hL, hm⟩ := List.mem_flatten.1 ((h.lps_all u).2 ⟨_, (o.aft_iff.1 ha).1⟩)
        exact ⟨L, hL, u, hX.loop_self ha, hm⟩
    · rw [List.pairwise_cons]
      constructor
      · rintro M hM L hL ⟨x, hx, hxL⟩ ⟨x', hx', hxL'⟩
        obtain ⟨u, rfl, -⟩ := hin L hL
        obtain ⟨w, rfl, b, hb⟩ := hinX M hM
        obtain ⟨_, b', hb'⟩ := hX.loop_mem_on hx'
        have h1 := o.loop_sub hb' ((h.loop_same hxL' x).2 hxL)
        obtain ⟨_, b2, hb2⟩ := hX.loop_mem_on h1
        obtain ⟨k, hk, e⟩ := (hH x).1 hx
        exact (o.aft_iff.1 hb2).2 k hk e
      · refine List.Pairwise.imp_of_mem ?_ (nodup_apart (hX.lps_nodup N.toNat))
        intro M M' hM hM' hap L hL ⟨x, hx, hxL⟩ ⟨x', hx', hxL'⟩
        obtain ⟨u, rfl, -⟩ := hin L hL
        obtain ⟨w, rfl, b, hb⟩ := hinX M hM
        obtain ⟨_, b', hb'⟩ := hX.loop_mem_on hx
        have h1 := o.loop_sub hb' ((h.loop_same hxL x').2 hxL')
        exact hap x' ((hX.loop_same hx x').1 h1) x' hx' rfl
  · rw [← List.length_cons (a := loopAt T N (((vx t 0).toNat : Nat) : Int))]
    refine len_rel (fun (L M : List Nat) => ∃ x ∈ L, x ∈ M) _ _ (fun L hL => ?_) ?_
    · obtain ⟨u, rfl, a, ha⟩ := hin L hL
      by_cases hk : ∃ k, k < 3 ∧ vx t k = (u : Int)
      · exact ⟨_, List.mem_cons_self .., u, h.loop_self ha, (hH u).2 hk⟩
      · obtain ⟨M, hM, hm⟩ := List.mem_flatten.1 ((hX.lps_all u).2 ⟨_, o.aft_iff.2 ⟨ha, fun k hk' e => hk ⟨k, hk', e⟩⟩⟩)
        exact ⟨M, List.mem_cons_of_mem _ hM, u, h.loop_self ha, hm⟩
    · refine List.Pairwise.imp_of_mem ?_ (nodup_apart (h.lps_nodup N.toNat))
      intro L L' hL hL' hap M hM ⟨x, hx, hxM⟩ ⟨x', hx', hxM'⟩
      obtain ⟨u, rfl, -⟩ := hin L hL
      obtain ⟨u', rfl, -⟩ := hin L' hL'
      rcases List.mem_cons.1 hM with rfl | hM
      · exact hap x' ((h.loop_same hx x').1 ((h.loop_same hxM x').2 hxM')) x' hx' rfl
      · obtain ⟨w, rfl, b, hb⟩ := hinX M hM
        have h1 := o.loop_sup hxM
        have h2 := o.loop_sup hxM'
        exact hap x' ((h.loop_same hx x').1 ((h.loop_same h1 x').2 h2)) x' hx' rfl
end
end Go.Mesh
