/- Surfaces alike but for names: plain laws. -/
import Derived.Test.YtpbdcppaiafbgaaBP
namespace Go.Mesh
/-- The same triangles, turned, in another order, by other numbers. -/
structure Sim (N : Int) (T X : List T3) (σ τ : Nat → Nat) (f : Int → Int) : Prop where
  len : X.length = T.length
  lt : ∀ c, c < 3 * T.length → σ c < 3 * T.length
  ltr : ∀ c, c < 3 * T.length → τ c < 3 * T.length
  st : ∀ c, c < 3 * T.length → σ (τ c) = c
  ts : ∀ c, c < 3 * T.length → τ (σ c) = c
  nx : ∀ c, c < 3 * T.length → σ (nx c) = nx (σ c)
  vt : ∀ c, c < 3 * T.length → vt X (σ c) = f (vt T c)
  frng : ∀ v, 0 ≤ v → v < N → 0 ≤ f v ∧ f v < N
  finj : ∀ v u, 0 ≤ v → v < N → 0 ≤ u → u < N → f v = f u → v = u
  fsur : ∀ u, 0 ≤ u → u < N → ∃ v, 0 ≤ v ∧ v < N ∧ f v = u
section
variable {N : Int} {T X : List T3} {σ τ : Nat → Nat} {f : Int → Int}
theorem Sim.pv (s : Sim N T X σ τ f) {c : Nat} (hc : c < 3 * T.length) : σ (pv c) = Mesh.pv (σ c) := by
  rw [← nx_nx c, s.nx _ (nx_lt hc), s.nx _ hc, nx_nx]
theorem tri_iff {c y : Nat} : y / 3 = c / 3 ↔ y = c ∨ y = Mesh.nx c ∨ y = Mesh.pv c := by unfold Mesh.nx Mesh.pv; omega
theorem Sim.tri (s : Sim N T X σ τ f) {c y : Nat} (hc : c < 3 * T.length) (hy : y / 3 = c / 3) : σ y / 3 = σ c / 3 := by
  rcases tri_iff.1 hy with rfl | rfl | rfl
  · rfl
  · rw [s.nx _ hc, nx_div]
  · rw [s.pv hc, pv_div]
theorem Sim.vt_inj (s : Sim N T X σ τ f) (h : Surf N T) {c d : Nat} (hc : c < 3 * T.length) (hd : d < 3 * T.length) (e : Mesh.vt X (σ c) = Mesh.vt X (σ d)) : Mesh.vt T c = Mesh.vt T d := by
  rw [s.vt _ hc, s.vt _ hd] at e
  exact s.finj _ _ (h.rng c hc).1 (h.rng c hc).2 (h.rng d hd).1 (h.rng d hd).2 e
/-- No two triangles have the same three vertices: either way. -/
theorem Surf.three_ne (h : Surf N T) {c d : Nat} (hc : c < 3 * T.length) (hd : d < 3 * T.length) (hne : c / 3 ≠ d / 3) : ¬ ∀ x, x / 3 = c / 3 → ∃ y, y / 3 = d / 3 ∧ Mesh.vt T x = Mesh.vt T y := by
  intro hall
  rcases Nat.lt_or_ge (c / 3) (d / 3) with h1 | h1
  · refine h.mirror (c / 3) (d / 3) h1 (by omega) fun k hk => ?_
    obtain ⟨y, hy, e⟩ := hall (3 * (c / 3) + k) (by omega)
    exact ⟨y % 3, by omega, by rw [e]; congr 1; omega⟩
  · have hx : ∀ k, k < 3 → ∃ m, m < 3 ∧ Mesh.vt T (3 * (c / 3) + k) = Mesh.vt T (3 * (d / 3) + m) := fun k hk => by
      obtain ⟨y, hy, e⟩ := hall (3 * (c / 3) + k) (by omega)
      exact ⟨y % 3, by omega, by rw [e]; congr 1; omega⟩
    obtain ⟨m0, hm0, e0⟩ := hx 0 (by omega)
    obtain ⟨m1, hm1, e1⟩ := hx 1 (by omega)
    obtain ⟨m2, hm2, e2⟩ := hx 2 (by omega)
    have n01 := h.loop (3 * (c / 3)) (by omega)
    have n12 := h.loop (3 * (c / 3) + 1) (by omega)
    have n02 := h.loop2 (c := 3 * (c / 3)) (by omega)
    rw [show Mesh.nx (3 * (c / 3)) = 3 * (c / 3) + 1 by unfold Mesh.nx; omega] at n01
    rw [show Mesh.nx (3 * (c / 3) + 1) = 3 * (c / 3) + 2 by unfold Mesh.nx; omega] at n12
    rw [show Mesh.pv (3 * (c / 3)) = 3 * (c / 3) + 2 by unfold Mesh.pv; omega] at n02
    rw [Nat.add_zero] at e0
    have k01 : m0 ≠ m1 := fun e => n01 (by rw [e0, e1, e])
    have k12 : m1 ≠ m2 := fun e => n12 (by rw [e1, e2, e])
    have k02 : m0 ≠ m2 := fun e => n02 (by rw [e0, e2, e])
    refine h.mirror (d / 3) (c / 3) (by omega) (by omega) fun m hm => ?_
    have : m = m0 ∨ m = m1 ∨ m = m2 := by omega
    rcases this with rfl | rfl | rfl
    · exact ⟨0, by omega, by rw [← e0]; rfl⟩
    · exact ⟨1, by omega, e1.symm⟩
    · exact ⟨2, by omega, e2.symm⟩
theorem Sim.surf (s : Sim N T X σ τ f) (h : Surf N T) : Surf N X := by
  have hl := s.len
  have key : ∀ c, c < 3 * X.length → ∃ d, d < 3 * T.length ∧ c = σ d := fun c hc => ⟨τ c, s.ltr c (by omega), (s.st c (by omega)).symm⟩
  have inj : ∀ c d, c < 3 * T.length → d < 3 * T.length → σ c = σ d → c = d := fun c d hc hd e => by rw [← s.ts c hc, e, s.ts d hd]
  refine ⟨h.n0, h.nmax, by rw [hl]; exact h.tmax, fun c hc => ?_, fun c hc => ?_, fun c d hc hd e => ?_, fun i j hij hj hall => ?_, fun v h0 h1 => ?_, fun v h0 h1 => ?_⟩
  · obtain ⟨d, hd, rfl⟩ := key c hc
    rw [s.vt d hd]
    exact s.frng _ (h.rng d hd).1 (h.rng d hd).2
  · obtain ⟨d, hd, rfl⟩ := key c hc
    rw [← s.nx d hd]
    exact fun e => h.loop d hd (s.vt_inj h hd (nx_lt hd) e)
  · obtain ⟨c1, hc1, rfl⟩ := key c hc
    obtain ⟨d1, hd1, rfl⟩ := key d hd
    unfold eg at e
    rw [← s.nx c1 hc1, ← s.nx d1 hd1, ← s.pv hc1, ← s.pv hd1] at e
    injection e with e1 e2
    rw [h.once c1 d1 hc1 hd1 (Prod.ext (s.vt_inj h (nx_lt hc1) (nx_lt hd1) e1) (s.vt_inj h (pv_lt hc1) (pv_lt hd1) e2))]
  · obtain ⟨c, hc, ec⟩ := key (3 * i) (by omega)
    obtain ⟨d, hd, ed⟩ := key (3 * j) (by omega)
    refine h.three_ne hc hd (fun e => ?_) fun x hx => ?_
    · have := s.tri hd e
      omega
    · have h3 := s.tri hc hx
      have hxl : x < 3 * T.length := by omega
      obtain ⟨m, hm, e⟩ := hall (σ x % 3) (by omega)
      rw [show 3 * i + σ x % 3 = σ x by omega] at e
      obtain ⟨y, hy, ey⟩ := key (3 * j + m) (by omega)
      rw [ey] at e
      refine ⟨y, ?_, s.vt_inj h hxl hy e⟩
      -- y and d lie in one triangle, as their images do
      rcases (tri_iff (c := σ d) (y := σ y)).1 (by omega) with k | k | k
      · rw [inj _ _ hy hd k]
      · rw [← s.nx d hd] at k; rw [inj _ _ hy (nx_lt hd) k, nx_div]
      · rw [← s.pv hd] at k; rw [inj _ _ hy (pv_lt hd) k, pv_div]
  · obtain ⟨u, u0, u1, rfl⟩ := s.fsur v h0 h1
    obtain ⟨c, hc, rfl⟩ := h.used u u0 u1
    exact ⟨σ c, by have := s.lt c hc; omega, s.vt c hc⟩
  · intro P ⟨c0, hc0, hv0, hP0⟩ hs c hc hv
    obtain ⟨d0, hd0, rfl⟩ := key c0 hc0
    obtain ⟨d, hd, rfl⟩ := key c hc
    obtain ⟨u, u0, u1, hu⟩ := s.fsur v h0 h1
    have hat : ∀ a, a < 3 * T.length → Mesh.vt X (σ a) = v → Mesh.vt T a = u := fun a ha e => by
      rw [s.vt a ha, ← hu] at e
      exact s.finj _ _ (h.rng a ha).1 (h.rng a ha).2 u0 u1 e
    have hto : ∀ a, a < 3 * T.length → Mesh.vt T a = u → Mesh.vt X (σ a) = v := fun a ha e => by rw [s.vt a ha, e, hu]
    refine h.fan u u0 u1 (fun a => P (σ a)) ⟨d0, hd0, hat d0 hd0 hv0, hP0⟩ (fun a b ha hav hb hbv hPa hsh => ?_) d hd (hat d hd hv)
    refine hs (σ a) (σ b) (by have := s.lt a ha; omega) (hto a ha hav) (by have := s.lt b hb; omega) (hto b hb hbv) hPa ?_
    unfold share at hsh ⊢
    rw [← s.nx a ha, ← s.nx b hb, ← s.pv ha, ← s.pv hb, s.vt _ (nx_lt ha), s.vt _ (nx_lt hb), s.vt _ (pv_lt ha), s.vt _ (pv_lt hb)]
    rcases hsh with e | e | e | e <;> rw [e] <;> simp
theorem Sim.opp_none (s : Sim N T X σ τ f) (h : Surf N T) {c : Nat} (hc : c < 3 * T.length) : opp X (σ c) = none ↔ opp T c = none := by
  have hX := s.surf h
  have hl := s.len
  constructor
  · intro ho
    cases hd : opp T c with
    | none => rfl
    | some d =>
      exfalso
      obtain ⟨h1, h2, h3⟩ := h.opp_iff.1 hd
      have : opp X (σ c) = some (σ d) := hX.opp_iff.2 ⟨by have := s.lt d h1; omega, by rw [← s.nx d h1, ← s.pv hc, s.vt _ (nx_lt h1), s.vt _ (pv_lt hc), h2], by rw [← s.nx c hc, ← s.pv h1, s.vt _ (pv_lt h1), s.vt _ (nx_lt hc), h3]⟩
      rw [ho] at this
      cases this
  · intro ho
    cases hd : opp X (σ c) with
    | none => rfl
    | some d =>
      exfalso
      obtain ⟨h1, h2, h3⟩ := hX.opp_iff.1 hd
      have hdl : d < 3 * T.length := by omega
      have hτ := s.ltr d hdl
      rw [← s.st d hdl, ← s.nx _ hτ, ← s.pv hc] at h2
      rw [← s.st d hdl, ← s.pv hτ, ← s.nx c hc] at h3
      have : opp T c = some (τ d) := h.opp_iff.2 ⟨hτ, s.vt_inj h (nx_lt hτ) (pv_lt hc) h2, s.vt_inj h (pv_lt hτ) (nx_lt hc) h3⟩
      rw [ho] at this
      cases this
theorem Sim.aft (s : Sim N T X σ τ f) (h : Surf N T) {v u : Int} (ha : aftV T v = some u) : aftV X (f v) = some (f u) := by
  obtain ⟨c, h1, h2, rfl, rfl⟩ := h.aftV_iff.1 ha
  exact (s.surf h).aftV_iff.2 ⟨σ c, by have := s.lt c h1; have := s.len; omega, (s.opp_none h h1).2 h2, by rw [← s.pv h1, s.vt _ (pv_lt h1)], by rw [← s.nx c h1, s.vt _ (nx_lt h1)]⟩
theorem Sim.aft_none (s : Sim N T X σ τ f) (h : Surf N T) {v : Int} (h0 : 0 ≤ v) (h1 : v < N) (ha : aftV T v = none) : aftV X (f v) = none := by
  cases hx : aftV X (f v) with
  | none => rfl
  | some w =>
    exfalso
    obtain ⟨c, h2, h3, h4, h5⟩ := (s.surf h).aftV_iff.1 hx
    have hcl : c < 3 * T.length := by have := s.len; omega
    have hτ := s.ltr c hcl
    rw [← s.st c hcl] at h3 h4
    rw [← s.pv hτ, s.vt _ (pv_lt hτ)] at h4
    have h6 := s.finj _ _ (h.rng _ (pv_lt hτ)).1 (h.rng _ (pv_lt hτ)).2 h0 h1 h4
    have : aftV T v = some (Mesh.vt T (Mesh.nx (τ c))) := h.aftV_iff.2 ⟨_, hτ, (s.opp_none h hτ).1 h3, h6, rfl⟩
    rw [ha] at this
    cases this
theorem bedges_len (T : List T3) : (bedges T).length = (bord T).length := by unfold bedges; rw [List.length_map]
theorem Sim.edges (s : Sim N T X σ τ f) (h : Surf N T) : (bedges X).length = (bedges T).length := by
  rw [bedges_len, bedges_len, show (bord T).length = ((bord T).map σ).length from (List.length_map σ).symm]
  apply List.Perm.length_eq
  refine (List.perm_ext_iff_of_nodup (bord_nodup X) (nodup_inj (bord_nodup T) fun a ha b hb e => by rw [← s.ts a (mem_bord.1 ha).1, e, s.ts b (mem_bord.1 hb).1])).2 fun c => ?_
  rw [mem_bord, List.mem_map]
  constructor
  · rintro ⟨h1, h2⟩
    have hcl : c < 3 * T.length := by have := s.len; omega
    exact ⟨τ c, mem_bord.2 ⟨s.ltr c hcl, (s.opp_none h (s.ltr c hcl)).1 (by rw [s.st c hcl]; exact h2)⟩, s.st c hcl⟩
  · rintro ⟨d, hd, rfl⟩
    obtain ⟨h1, h2⟩ := mem_bord.1 hd
    exact ⟨by have := s.lt d h1; have := s.len; omega, (s.opp_none h h1).2 h2⟩
/-- A relation that tells apart the members of one list, and has each related to a member of another. -/
theorem len_rel {α β : Type} (R : α → β → Prop) : ∀ (A : List α) (B : List β), (∀ a ∈ A, ∃ b ∈ B, R a b) → A.Pairwise (fun a a' => ∀ b ∈ B, R a b → ¬ R a' b) → A.length ≤ B.length
  | [], _, _, _ => Nat.zero_le _
  | a :: A, B, ht, hp => by
    obtain ⟨b, hb, hr⟩ := ht a (List.mem_cons_self ..)
    obtain ⟨B1, B2, rfl⟩ := List.append_of_mem hb
    obtain ⟨h1, h2⟩ := List.pairwise_cons.1 hp
    have hsub : ∀ b' ∈ B1 ++ B2, b' ∈ B1 ++ b :: B2 := fun b' h => by
      rcases List.mem_append.1 h with k | k
      · exact List.mem_append_left _ k
      · exact List.mem_append_right _ (List.mem_cons_of_mem _ k)
    have := len_rel R A (B1 ++ B2) (fun a' ha' => by
      obtain ⟨b', hb', hr'⟩ := ht a' (List.mem_cons_of_mem _ ha')
      refine ⟨b', ?_, hr'⟩
      rcases List.mem_append.1 hb' with k | k
      · exact List.mem_append_left _ k
      · rcases List.mem_cons.1 k with rfl | k
        · exact absurd hr' (h1 a' ha' _ hb hr)
        · exact List.mem_append_right _ k) (h2.imp fun h b' hb' => h b' (hsub b' hb'))
    simp only [List.length_append, List.length_cons] at this ⊢
    omega
theorem nodup_apart {α : Type} {A : List (List α)} (h : A.flatten.Nodup) : A.Pairwise fun l m => ∀ x ∈ l, ∀ y ∈ m, x ≠ y := (List.pairwise_flatten.1 h).2
/-- Whoever is behind another, and by other numbers too, is on the same loop. -/
theorem Sim.loop (s : Sim N T X σ τ f) (h : Surf N T) {v : Int} {x y z : Nat} (hx : x ∈ loopAt T N v) (hy : (y : Int) = f x) (hz : z ∈ loopAt X N (y : Int)) : ∃ u ∈ loopAt T N v, (z : Int) = f u := by
  have hX := s.surf h
  have hyy := hX.loop_mem_on hz
  obtain ⟨b, hb⟩ := hyy.1
  have hM := hX.loop_is hb
  refine hM.closed hX (fun z => ∃ u ∈ loopAt T N v, (z : Int) = f u) (fun c d ⟨u, hu, hc⟩ hd => ?_) (hX.loop_self hb) ⟨x, hx, hy⟩ z hz
  obtain ⟨⟨a, ha⟩, b2, hb2⟩ := h.loop_mem_on hu
  have h3 := s.aft h hb2
  rw [← hc, hd] at h3
  have hr := (h.aftV_rng hb2).2
  exact ⟨b2.toNat, (h.loop_is ha).next hu (by rw [hb2, Int.toNat_of_nonneg hr.1]), by rw [Int.toNat_of_nonneg hr.1]; exact Option.some.inj h3⟩
theorem Sim.loops_le (s : Sim N T X σ τ f) (h : Surf N T) : (lps T N N.toNat).length ≤ (lps X N N.toNat).length := by
  have hX := s.surf h
  refine len_rel (fun (L M : List Nat) => ∃ x ∈ L, ∃ y ∈ M, ((y : Nat) : Int) = f ((x : Nat) : Int)) _ _ (fun L hL => ?_) ?_
  · obtain ⟨_, u, hu, rfl, a, ha⟩ := h.lps_each _ L hL
    have h1 := s.aft h ha
    have hr := (hX.aftV_rng h1).1
    have h2 : ((f (u : Int)).toNat : Int) = f u := Int.toNat_of_nonneg hr.1
    obtain ⟨M, hM, hm⟩ := List.mem_flatten.1 ((hX.lps_all (f (u : Int)).toNat).2 ⟨_, by rw [h2]; exact h1⟩)
    exact ⟨M, hM, u, h.loop_self ha, _, hm, h2⟩
  · have hall : ∀ L ∈ lps T N N.toNat, ∃ u : Nat, L = loopAt T N (u : Int) := fun L hL => by
      obtain ⟨_, u, _, e, _⟩ := h.lps_each _ L hL
      exact ⟨u, e⟩
    refine List.Pairwise.imp_of_mem ?_ (nodup_apart (h.lps_nodup N.toNat))
    intro L L' hL hL' hap M hM ⟨x, hx, y, hy, e⟩ ⟨x', hx', y', hy', e'⟩
    obtain ⟨u, rfl⟩ := hall L hL
    obtain ⟨_, v, _, rfl, _⟩ := hX.lps_each _ M hM
    obtain ⟨x2, hx2, e2⟩ := s.loop h hx e ((hX.loop_same hy y').2 hy')
    rw [e'] at e2
    obtain ⟨u', rfl⟩ := hall L' hL'
    obtain ⟨_, b, hb⟩ := h.loop_mem_on hx'
    obtain ⟨_, b2, hb2⟩ := h.loop_mem_on hx2
    have r1 := (h.aftV_rng hb).1
    have r2 := (h.aftV_rng hb2).1
    have := s.finj _ _ r1.1 r1.2 r2.1 r2.2 e2
    exact hap x2 hx2 x' hx' (by omega)
end
end Go.Mesh
