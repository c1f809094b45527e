/- Plain: a surface cut along edges: corners that belong together, numbers for them; no program in sight. Plain: the sectors around a vertex, by their places in the ring; when a cut edge parts its sides; no program in sight. Plain: a vertex's sectors as rows: split where a cut is, by their least corners; no program in sight. Plain: how many sectors a vertex has; how many corners face cut edges; no program in sight. Plain: the numbers while the sectors are counted. Plain: what was cut, sewn; no program in sight. Plain: what was cut, sewn in two goes; no program in sight. Plain: the same cut told by other lists; nothing cut; how many vertices, edges and border edges a cut brings; no program in sight. -/
import Derived.Test.YtpbdcppaiafbgaaGreatMP
import Derived.Test.YtpbdcppaiafbgaaGreatGA
namespace Go.Mesh
def nm (e : Int × Int) : Int × Int := (min e.1 e.2, max e.1 e.2)
theorem nm_swap (a b : Int) : nm (a, b) = nm (b, a) := by unfold nm; simp only []; rw [Int.min_comm, Int.max_comm]
theorem nm_eq {a b x y : Int} : nm (a, b) = nm (x, y) ↔ (a = x ∧ b = y) ∨ (a = y ∧ b = x) := by
  unfold nm
  simp only [Prod.mk.injEq]
  omega
def ctB (T : List T3) (C : List (Int × Int)) (c : Nat) : Prop := nm (vt T c, vt T (nx c)) ∈ C
instance (T : List T3) (C : List (Int × Int)) (c : Nat) : Decidable (ctB T C c) := inferInstanceAs (Decidable (_ ∈ C))
def Shut (T : List T3) (C : List (Int × Int)) (P : Nat → Prop) : Prop := ∀ c d, c < 3 * T.length → aft T c = some d → ¬ ctB T C d → (P c ↔ P d)
def Sect (T : List T3) (C : List (Int × Int)) (c d : Nat) : Prop := ∀ P : Nat → Prop, Shut T C P → P c → P d
section
variable {N : Int} {T : List T3} {C : List (Int × Int)}
theorem Sect.refl (c : Nat) : Sect T C c c := fun _ _ h => h
theorem Sect.trans {c d e : Nat} (h : Sect T C c d) (k : Sect T C d e) : Sect T C c e := fun P hP hc => k P hP (h P hP hc)
theorem Sect.symm {c d : Nat} (h : Sect T C c d) : Sect T C d c := fun P hP hd => Classical.byContradiction fun hn =>
  h (fun x => ¬ P x) (fun a b ha hab hc => not_congr (hP a b ha hab hc)) hn hd
theorem Sect.step {c d : Nat} (hc : c < 3 * T.length) (ha : aft T c = some d) (hn : ¬ ctB T C d) : Sect T C c d := fun _ hP h => (hP c d hc ha hn).1 h
theorem Sect.vt (hs : Surf N T) {c d : Nat} (h : Sect T C c d) : vt T d = vt T c := h (fun x => Go.Mesh.vt T x = Go.Mesh.vt T c) (fun _ _ _ hab _ => by simp only [hs.aft_vt hab]) rfl
theorem Sect.lt (hs : Surf N T) {c d : Nat} (hc : c < 3 * T.length) (h : Sect T C c d) : d < 3 * T.length := h (fun x => x < 3 * T.length) (fun _ _ ha hab _ => ⟨fun _ => (hs.aft_iff.1 hab).1, fun _ => ha⟩) hc
structure Numb (N : Int) (T : List T3) (C : List (Int × Int)) (X : List T3) (O : List Int) : Prop where
  len : X.length = T.length
  same : ∀ c d, c < 3 * T.length → d < 3 * T.length → (vt X c = vt X d ↔ Sect T C c d)
  was : ∀ c, c < 3 * T.length → ∃ k : Nat, vt X c = k ∧ O[k]? = some (vt T c)
  old : ∀ v : Nat, (v : Int) < N → O[v]? = some (v : Int)
  used : ∀ k : Nat, k < O.length → ∃ c, c < 3 * T.length ∧ vt X c = k
def Parts (T : List T3) (C : List (Int × Int)) : Prop := ∀ c d, c < 3 * T.length → opp T c = some d → nm (eg T c) ∈ C → ¬ (Sect T C (nx c) (pv d) ∧ Sect T C (pv c) (nx d))
variable {X : List T3} {O : List Int}
theorem Numb.vtT (n : Numb N T C X O) {c d : Nat} (hc : c < 3 * T.length) (hd : d < 3 * T.length) (h : vt X c = vt X d) : vt T c = vt T d := by
  obtain ⟨k, h1, h2⟩ := n.was c hc
  obtain ⟨m, h3, h4⟩ := n.was d hd
  have : k = m := by omega
  subst this
  rw [h2] at h4
  exact Option.some.inj h4
theorem Surf.over (hs : Surf N T) {c d : Nat} (hc : c < 3 * T.length) (ho : opp T c = some d) : aft T (pv c) = some (nx d) ∧ aft T (pv d) = some (nx c) ∧ d < 3 * T.length ∧ (vt T (nx d), vt T (nx (nx d))) = (vt T (pv c), vt T (nx c)) ∧ (vt T (nx c), vt T (nx (nx c))) = (vt T (nx c), vt T (pv c)) := by
  obtain ⟨h1, h2, h3⟩ := hs.opp_iff.1 ho
  refine ⟨?_, ?_, h1, ?_, ?_⟩
  · unfold aft; rw [nx_pv, ho]; rfl
  · unfold aft; rw [nx_pv, hs.opp_symm hc ho]; rfl
  · rw [nx_nx, h2, h3]
  · rw [nx_nx]
theorem ct_over (hs : Surf N T) {c d : Nat} (hc : c < 3 * T.length) (ho : opp T c = some d) : (ctB T C (nx d) ↔ nm (eg T c) ∈ C) ∧ (ctB T C (nx c) ↔ nm (eg T c) ∈ C) := by
  obtain ⟨_, _, _, h4, h5⟩ := hs.over hc ho
  unfold ctB
  rw [h4, h5, nm_swap]
  exact ⟨Iff.rfl, Iff.rfl⟩
theorem opp_uncut (hs : Surf N T) {c d : Nat} (hc : c < 3 * T.length) (ho : opp T c = some d) (hn : nm (eg T c) ∉ C) : Sect T C (nx c) (pv d) ∧ Sect T C (pv c) (nx d) := by
  obtain ⟨h1, h2, h3, _, _⟩ := hs.over hc ho
  obtain ⟨k1, k2⟩ := ct_over (C := C) hs hc ho
  exact ⟨(Sect.step (pv_lt h3) h2 (fun h => hn (k2.1 h))).symm, Sect.step (pv_lt hc) h1 (fun h => hn (k1.1 h))⟩
theorem Numb.eg (n : Numb N T C X O) {c d : Nat} (hc : c < 3 * T.length) (hd : d < 3 * T.length) (h : eg X c = eg X d) : eg T c = eg T d := by
  unfold Go.Mesh.eg at h ⊢
  simp only [Prod.mk.injEq] at h ⊢
  exact ⟨n.vtT (nx_lt hc) (nx_lt hd) h.1, n.vtT (pv_lt hc) (pv_lt hd) h.2⟩
theorem Numb.rngX (n : Numb N T C X O) : ∀ c, c < 3 * X.length → 0 ≤ Go.Mesh.vt X c ∧ Go.Mesh.vt X c < (O.length : Nat) := fun c hc => by
  rw [n.len] at hc
  obtain ⟨k, h1, h2⟩ := n.was c hc
  have := (List.getElem?_eq_some_iff.1 h2).1
  omega
theorem Numb.onceX (n : Numb N T C X O) (hs : Surf N T) : ∀ c d, c < 3 * X.length → d < 3 * X.length → Go.Mesh.eg X c = Go.Mesh.eg X d → c = d := fun c d hc hd h => by
  rw [n.len] at hc hd
  exact hs.once c d hc hd (n.eg hc hd h)
theorem leastFrom_ok {p : Nat → Bool} {n d : Nat} (hd : d < n) (hp : p d = true) (hu : ∀ e, e < n → p e = true → e = d) : leastFrom p 0 n = some d := by
  obtain ⟨e, he⟩ := leastFrom_isSome (p := p) (k := 0) (n := n) (c := d) (by omega) (by omega) hp
  obtain ⟨_, h2, h3, _⟩ := (leastFrom_some _ _ _ _).1 he
  rw [he, hu e (by omega) h3]
theorem Numb.opp_iff (n : Numb N T C X O) (hs : Surf N T) (hp : Parts T C) {c d : Nat} (hc : c < 3 * T.length) : opp X c = some d ↔ opp T c = some d ∧ nm (Go.Mesh.eg T c) ∉ C := by
  constructor
  · intro h
    obtain ⟨h1, h2⟩ := facing_some h
    rw [n.len] at h1
    have e1 : vt X (nx d) = vt X (pv c) := congrArg Prod.fst h2
    have e2 : vt X (pv d) = vt X (nx c) := congrArg Prod.snd h2
    have ho : opp T c = some d := hs.opp_iff.2 ⟨h1, n.vtT (nx_lt h1) (pv_lt hc) e1, n.vtT (pv_lt h1) (nx_lt hc) e2⟩
    exact ⟨ho, fun hm => hp c d hc ho hm ⟨(n.same _ _ (nx_lt hc) (pv_lt h1)).1 e2.symm, (n.same _ _ (pv_lt hc) (nx_lt h1)).1 e1.symm⟩⟩
  · rintro ⟨ho, hn⟩
    obtain ⟨h1, h2⟩ := opp_uncut (C := C) hs hc ho hn
    have hd := (hs.opp_iff.1 ho).1
    have e1 := (n.same _ _ (nx_lt hc) (pv_lt hd)).2 h1
    have e2 := (n.same _ _ (pv_lt hc) (nx_lt hd)).2 h2
    unfold opp facing
    refine leastFrom_ok (by rw [n.len]; exact hd) ?_ fun e he h9 => ?_
    · rw [beq_iff_eq]
      unfold Go.Mesh.eg
      rw [e1, e2]
    · rw [beq_iff_eq] at h9
      refine n.onceX hs e d he (by rw [n.len]; exact hd) ?_
      rw [h9]
      unfold Go.Mesh.eg
      rw [e1, e2]
theorem Numb.surf (n : Numb N T C X O) (hs : Surf N T) (hp : Parts T C) (hO : O.length ≤ 4096) : Surf (O.length : Nat) X where
  n0 := by omega
  nmax := by omega
  tmax := by rw [n.len]; exact hs.tmax
  rng := n.rngX
  loop := fun c hc h => by
    rw [n.len] at hc
    exact hs.loop c hc (n.vtT hc (nx_lt hc) h)
  once := n.onceX hs
  mirror := fun i j hij hj h => by
    rw [n.len] at hj
    refine hs.mirror i j hij hj fun k hk => ?_
    obtain ⟨m, hm, he⟩ := h k hk
    exact ⟨m, hm, n.vtT (by omega) (by omega) he⟩
  used := fun v h0 h1 => by
    obtain ⟨c, hc, he⟩ := n.used v.toNat (by omega)
    exact ⟨c, by rw [n.len]; exact hc, by omega⟩
  fan := fun v h0 h1 P hb hstep c hc hv => by
    obtain ⟨b, hb1, hb2, hb3⟩ := hb
    rw [n.len] at hb1 hc
    have key : Shut T C fun x => x < 3 * T.length ∧ (Go.Mesh.vt X x = v → P x) := fun x y hx hxy hcut => by
      have hy := (hs.aft_iff.1 hxy).1
      have hsect := Sect.step hx hxy hcut
      have hxyv : vt X x = vt X y := (n.same x y hx hy).2 hsect
      -- the edge between them
      have ho : opp T (nx x) = some (pv y) := by
        unfold aft at hxy
        obtain ⟨o, ho, rfl⟩ := Option.map_eq_some_iff.1 hxy
        rw [pv_nx]; exact ho
      have hnc : nm (Go.Mesh.eg T (nx x)) ∉ C := by
        have := (ct_over (C := C) hs (nx_lt hx) ho).1
        rw [nx_pv] at this
        exact fun h => hcut (this.2 h)
      have hX := (n.opp_iff hs hp (nx_lt hx)).2 ⟨ho, hnc⟩
      have e := (facing_some hX).2
      have e1 : vt X (pv (pv y)) = vt X (nx (nx x)) := congrArg Prod.snd e
      rw [pv_pv, nx_nx] at e1
      have hsh1 : share X x y := .inr (.inr (.inl e1.symm))
      have hsh2 : share X y x := .inr (.inl e1)
      refine ⟨fun ⟨_, h⟩ => ⟨hy, fun hv => hstep x y (by rw [n.len]; exact hx) (by omega) (by rw [n.len]; exact hy) hv (h (by omega)) hsh1⟩,
        fun ⟨_, h⟩ => ⟨hx, fun hv => hstep y x (by rw [n.len]; exact hy) (by omega) (by rw [n.len]; exact hx) hv (h (by omega)) hsh2⟩⟩
    have hbc := (n.same b c hb1 hc).1 (by omega)
    exact (hbc _ key ⟨hb1, fun _ => hb3⟩).2 hv
theorem Numb.bord (n : Numb N T C X O) (hs : Surf N T) (hp : Parts T C) {c : Nat} (hc : c < 3 * T.length) : opp X c = none ↔ opp T c = none ∨ nm (Go.Mesh.eg T c) ∈ C := by
  cases hX : opp X c with
  | some d =>
    obtain ⟨h1, h2⟩ := (n.opp_iff hs hp hc).1 hX
    rw [h1]
    simp [h2]
  | none =>
    simp only [true_iff]
    refine Classical.byContradiction fun h => ?_
    rw [not_or] at h
    cases hT : opp T c with
    | none => exact h.1 hT
    | some d =>
      rw [(n.opp_iff hs hp hc).2 ⟨hT, h.2⟩] at hX
      cases hX
def relab (f : Nat → Int) (n : Nat) : List T3 := (List.range n).map fun i => (f (3 * i), f (3 * i + 1), f (3 * i + 2))
theorem relab_len (f : Nat → Int) (n : Nat) : (relab f n).length = n := by unfold relab; simp
theorem vt_relab (f : Nat → Int) {n c : Nat} (hc : c < 3 * n) : vt (relab f n) c = f c := by
  unfold vt relab
  rw [List.getD_eq_getElem?_getD, List.getElem?_map, List.getElem?_range (by omega)]
  show vx (f (3 * (c / 3)), f (3 * (c / 3) + 1), f (3 * (c / 3) + 2)) (c % 3) = f c
  have : c % 3 = 0 ∨ c % 3 = 1 ∨ c % 3 = 2 := by omega
  rcases this with h | h | h <;> rw [h]
  · exact congrArg f (by omega)
  · exact congrArg f (by omega)
  · exact congrArg f (by omega)
def Head (T : List T3) (C : List (Int × Int)) (c : Nat) : Prop := ∀ d, d < c → ¬ Sect T C d c
def Extra (T : List T3) (C : List (Int × Int)) (c : Nat) : Prop := Head T C c ∧ ∃ d, d < c ∧ vt T d = vt T c
open Classical in
noncomputable def exV (T : List T3) (C : List (Int × Int)) (v : Int) : List Nat := (List.range (3 * T.length)).filter fun c => @decide (vt T c = v ∧ Extra T C c) (Classical.propDecidable _)
noncomputable def exH (T : List T3) (C : List (Int × Int)) (k : Nat) : List Nat := (List.range k).flatMap fun v : Nat => exV T C (v : Int)
theorem mem_exV {v : Int} {c : Nat} : c ∈ exV T C v ↔ c < 3 * T.length ∧ vt T c = v ∧ Extra T C c := by
  unfold exV
  rw [List.mem_filter, List.mem_range]
  exact and_congr_right fun _ => @decide_eq_true_iff _ (Classical.propDecidable _)
theorem mem_exH {k c : Nat} : c ∈ exH T C k ↔ ∃ v : Nat, v < k ∧ c < 3 * T.length ∧ vt T c = (v : Int) ∧ Extra T C c := by
  unfold exH
  rw [List.mem_flatMap]
  constructor
  · rintro ⟨v, hv, h⟩
    obtain ⟨h1, h2, h3⟩ := mem_exV.1 h
    exact ⟨v, List.mem_range.1 hv, h1, h2, h3⟩
  · rintro ⟨v, hv, h⟩
    exact ⟨v, List.mem_range.2 hv, mem_exV.2 h⟩
theorem exH_nodup (k : Nat) : (exH T C k).Nodup := by
  induction k with
  | zero => exact List.nodup_nil
  | succ k ih =>
    unfold exH
    rw [List.range_succ, List.flatMap_append]
    refine List.nodup_append.2 ⟨ih, ?_, ?_⟩
    · simp only [List.flatMap_cons, List.flatMap_nil, List.append_nil]
      exact List.nodup_range.sublist List.filter_sublist
    · intro a ha b hb e
      subst e
      simp only [List.flatMap_cons, List.flatMap_nil, List.append_nil] at hb
      obtain ⟨v, hv, _, h2, _⟩ := mem_exH.1 ha
      have := (mem_exV.1 hb).2.1
      omega
open Classical in
noncomputable def newN (N : Int) (T : List T3) (C : List (Int × Int)) (c : Nat) : Int :=
  match (exH T C N.toNat).findIdx? fun e => decide (Sect T C e c) with
  | some i => N + ((i : Nat) : Int)
  | none => vt T c
noncomputable def newX (N : Int) (T : List T3) (C : List (Int × Int)) : List T3 := relab (newN N T C) T.length
noncomputable def newO (N : Int) (T : List T3) (C : List (Int × Int)) : List Int := (List.range N.toNat).map (fun v : Nat => (v : Int)) ++ (exH T C N.toNat).map (vt T)
theorem head_of (T : List T3) (C : List (Int × Int)) : ∀ c : Nat, ∃ d, d ≤ c ∧ Sect T C d c ∧ Head T C d := fun c => by
  induction c using Nat.strongRecOn with
  | ind c ih =>
    by_cases h : Head T C c
    · exact ⟨c, Nat.le_refl c, Sect.refl c, h⟩
    · have : ∃ d, d < c ∧ Sect T C d c := Classical.byContradiction fun hn => h fun d hd hs => hn ⟨d, hd, hs⟩
      obtain ⟨d, hd, hdc⟩ := this
      obtain ⟨e, he, h1, h2⟩ := ih d hd
      exact ⟨e, by omega, h1.trans hdc, h2⟩
theorem head_one {c d : Nat} (hc : Head T C c) (hd : Head T C d) (h : Sect T C c d) : c = d := by
  rcases Nat.lt_trichotomy c d with h1 | h1 | h1
  · exact absurd h (hd c h1)
  · exact h1
  · exact absurd h.symm (hc d h1)
open Classical in
theorem newN_cases (c : Nat) :
    (∃ i e : Nat, (exH T C N.toNat)[i]? = some e ∧ Sect T C e c ∧ newN N T C c = N + (i : Int)) ∨ ((∀ e ∈ exH T C N.toNat, ¬ Sect T C e c) ∧ newN N T C c = vt T c) := by
  unfold newN
  cases hf : (exH T C N.toNat).findIdx? fun e => decide (Sect T C e c) with
  | none =>
    right
    refine ⟨fun e he => ?_, rfl⟩
    have := List.findIdx?_eq_none_iff.1 hf e he
    simpa using this
  | some i =>
    left
    obtain ⟨hi, h1, _⟩ := List.findIdx?_eq_some_iff_getElem.1 hf
    exact ⟨i, _, List.getElem?_eq_getElem hi, by simpa using h1, rfl⟩
theorem newN_extra {i e c : Nat} (hi : (exH T C N.toNat)[i]? = some e) (h : Sect T C e c) : newN N T C c = N + (i : Int) := by
  rcases newN_cases (N := N) (T := T) (C := C) c with ⟨j, f, h1, h2, h3⟩ | ⟨h1, _⟩
  · have he := mem_exH.1 (List.mem_of_getElem? hi)
    have hf := mem_exH.1 (List.mem_of_getElem? h1)
    obtain ⟨_, _, _, _, he, _⟩ := he
    obtain ⟨_, _, _, _, hf, _⟩ := hf
    have := head_one he hf (h.trans h2.symm)
    subst this
    obtain ⟨g1, g2⟩ := List.getElem?_eq_some_iff.1 hi
    obtain ⟨g3, g4⟩ := List.getElem?_eq_some_iff.1 h1
    have := (List.getElem_inj (exH_nodup (T := T) (C := C) N.toNat)).1 (g2.trans g4.symm)
    rw [h3, this]
  · exact absurd h (h1 e (List.mem_of_getElem? hi))
theorem newN_first (hs : Surf N T) {c d : Nat} (hd : ∀ e, e < d → vt T e ≠ vt T d) (h : Sect T C d c) : newN N T C c = vt T c := by
  rcases newN_cases (N := N) (T := T) (C := C) c with ⟨j, f, h1, h2, h3⟩ | ⟨_, h1⟩
  · exfalso
    obtain ⟨_, _, _, hv, hf, x, hx, hxv⟩ := mem_exH.1 (List.mem_of_getElem? h1)
    have hdh : Head T C d := fun e he hs' => hd e he (hs'.vt hs).symm
    have := head_one hf hdh (h2.trans h.symm)
    subst this
    exact hd x hx hxv
  · exact h1
theorem exH_lt {i e : Nat} (hi : (exH T C N.toNat)[i]? = some e) : e < 3 * T.length := by
  obtain ⟨_, _, h, _⟩ := mem_exH.1 (List.mem_of_getElem? hi)
  exact h
theorem numb (hs : Surf N T) : Numb N T C (newX N T C) (newO N T C) := by
  have hN := hs.n0
  have hvX : ∀ c, c < 3 * T.length → vt (newX N T C) c = newN N T C c := fun c hc => vt_relab _ hc
  have hO1 : ∀ v : Nat, (v : Int) < N → (newO N T C)[v]? = some (v : Int) := fun v hv => by
    unfold newO
    rw [List.getElem?_append_left (by simp; omega), List.getElem?_map, List.getElem?_range (by omega)]
    rfl
  have hO2 : ∀ i e : Nat, (exH T C N.toNat)[i]? = some e → (newO N T C)[N.toNat + i]? = some (vt T e) := fun i e h => by
    unfold newO
    rw [List.getElem?_append_right (by simp), List.getElem?_map]
    simp only [List.length_map, List.length_range]
    rw [show N.toNat + i - N.toNat = i by omega, h]
    rfl
  -- who isn't in a further sector is in the first one
  have hfirst : ∀ c, c < 3 * T.length → (∀ e ∈ exH T C N.toNat, ¬ Sect T C e c) → ∃ d, (∀ e, e < d → vt T e ≠ vt T d) ∧ Sect T C d c := fun c hc hno => by
    obtain ⟨d, hdc, h1, h2⟩ := head_of T C c
    refine ⟨d, fun e he hv => ?_, h1⟩
    have hr := hs.rng d (by omega)
    exact hno d (mem_exH.2 ⟨(vt T d).toNat, by omega, by omega, by omega, h2, e, he, hv⟩) h1
  have hleast : ∀ d d' : Nat, (∀ e, e < d → vt T e ≠ vt T d) → (∀ e, e < d' → vt T e ≠ vt T d') → vt T d = vt T d' → d = d' := fun d d' h1 h2 h3 => by
    rcases Nat.lt_trichotomy d d' with h | h | h
    · exact absurd h3 (h2 d h)
    · exact h
    · exact absurd h3.symm (h1 d' h)
  constructor
  · exact relab_len _ _
  · intro c d hc hd
    rw [hvX c hc, hvX d hd]
    have hrc := hs.rng c hc
    have hrd := hs.rng d hd
    constructor
    · intro h
      rcases newN_cases (N := N) (T := T) (C := C) c with ⟨i, e, h1, h2, h3⟩ | ⟨h1, h3⟩ <;> rcases newN_cases (N := N) (T := T) (C := C) d with ⟨j, f, k1, k2, k3⟩ | ⟨k1, k3⟩
      · have : i = j := by omega
        subst this
        rw [h1] at k1
        have := Option.some.inj k1
        subst this
        exact h2.symm.trans k2
      · omega
      · omega
      · obtain ⟨x, hx, hxc⟩ := hfirst c hc h1
        obtain ⟨y, hy, hyd⟩ := hfirst d hd k1
        have : x = y := hleast x y hx hy (by rw [← hxc.vt hs, ← hyd.vt hs]; omega)
        subst this
        exact hxc.symm.trans hyd
    · intro h
      rcases newN_cases (N := N) (T := T) (C := C) c with ⟨i, e, h1, h2, h3⟩ | ⟨h1, h3⟩
      · rw [h3, newN_extra h1 (h2.trans h)]
      · obtain ⟨x, hx, hxc⟩ := hfirst c hc h1
        rw [h3, newN_first hs hx (hxc.trans h), h.vt hs]
  · intro c hc
    rw [hvX c hc]
    have hrc := hs.rng c hc
    rcases newN_cases (N := N) (T := T) (C := C) c with ⟨i, e, h1, h2, h3⟩ | ⟨h1, h3⟩
    · exact ⟨N.toNat + i, by rw [h3]; omega, by rw [hO2 i e h1, h2.vt hs]⟩
    · exact ⟨(vt T c).toNat, by rw [h3]; omega, by rw [hO1 _ (by omega), Int.toNat_of_nonneg hrc.1]⟩
  · exact hO1
  · intro k hk
    have hlen : (newO N T C).length = N.toNat + (exH T C N.toNat).length := by unfold newO; simp
    rcases Nat.lt_or_ge k N.toNat with h1 | h1
    · obtain ⟨c, hc⟩ := hs.corner_some (v := (k : Int)) (by omega) (by omega)
      obtain ⟨_, g2, g3, g4⟩ := (leastFrom_some _ _ _ _).1 hc
      have g3 : vt T c = (k : Int) := by simpa using g3
      refine ⟨c, by omega, ?_⟩
      rw [hvX c (by omega), newN_first hs (fun e he hv => ?_) (Sect.refl c), g3]
      have := g4 e (by omega) he
      rw [beq_eq_false_iff_ne] at this
      exact this (hv.trans g3)
    · have hi : k - N.toNat < (exH T C N.toNat).length := by omega
      have hlt := exH_lt (C := C) (List.getElem?_eq_getElem hi)
      refine ⟨_, hlt, ?_⟩
      rw [hvX _ hlt, newN_extra (List.getElem?_eq_getElem hi) (Sect.refl _)]
      omega
end
end Go.Mesh

namespace Go.Mesh
def labL (p : Nat → Bool) (l : List Nat) (i : Nat) : Nat := ((l.take (i + 1)).drop 1).countP p
theorem labL_zero (p : Nat → Bool) (l : List Nat) : labL p l 0 = 0 := by
  unfold labL
  cases l <;> simp
theorem labL_succ {p : Nat → Bool} {l : List Nat} {i : Nat} (hi : i + 1 < l.length) : labL p l (i + 1) = labL p l i + if p l[i + 1] = true then 1 else 0 := by
  unfold labL
  rw [List.take_succ_eq_append_getElem hi, List.drop_append_of_le_length (by rw [List.length_take]; omega), List.countP_append, List.countP_cons, List.countP_nil]
  split <;> simp_all
theorem labL_mono (p : Nat → Bool) (l : List Nat) {i j : Nat} (h : i ≤ j) (hj : j < l.length) : labL p l i ≤ labL p l j := by
  induction j with
  | zero => rw [Nat.le_zero.1 h]; exact Nat.le_refl _
  | succ j ih =>
    rcases Nat.lt_or_ge j i with h1 | h1
    · rw [show i = j + 1 by omega]; exact Nat.le_refl _
    · have := ih h1 (by omega)
      rw [labL_succ hj]; omega
theorem labL_lt {p : Nat → Bool} {l : List Nat} {i j : Nat} (h : i < j) (hj : j < l.length) (hp : p l[j] = true) : labL p l i < labL p l j := by
  obtain ⟨k, rfl⟩ : ∃ k, j = k + 1 := ⟨j - 1, by omega⟩
  have := labL_mono p l (i := i) (j := k) (by omega) (by omega)
  rw [labL_succ hj, if_pos hp]; omega
theorem labL_eq {p : Nat → Bool} {l : List Nat} {i j : Nat} (hj : j < l.length) (h : labL p l i = labL p l j) {k : Nat} (h1 : i < k) (h2 : k ≤ j) : p (l[k]'(by omega)) = false := by
  cases hp : p (l[k]'(by omega)) with
  | false => rfl
  | true =>
    have a := labL_lt h1 (by omega) hp
    have b := labL_mono p l h2 hj
    omega
section
variable {N : Int} {T : List T3} {C : List (Int × Int)} {v : Int} {l : List Nat} {inner : Bool}
def pB (T : List T3) (C : List (Int × Int)) (c : Nat) : Bool := decide (ctB T C c)
def openL (T : List T3) (C : List (Int × Int)) (l : List Nat) (inner : Bool) : Bool := inner && !pB T C (l.getD 0 0)
def mlab (T : List T3) (C : List (Int × Int)) (l : List Nat) (inner : Bool) (i : Nat) : Nat :=
  if openL T C l inner = true ∧ labL (pB T C) l i = labL (pB T C) l (l.length - 1) then 0 else labL (pB T C) l i
theorem Ring.nodup (r : Ring T v l inner) : l.Nodup := by obtain ⟨b, hb⟩ := r.run; exact hb.nodup
theorem Ring.step (r : Ring T v l inner) {i : Nat} (h : i + 1 < l.length) : aft T l[i] = some l[i + 1] := by obtain ⟨b, hb⟩ := r.run; exact hb.steps i h
theorem Ring.ne (r : Ring T v l inner) : 0 < l.length := by obtain ⟨b, hb⟩ := r.run; exact hb.ne
theorem Ring.next (r : Ring T v l inner) {i d : Nat} (hi : i < l.length) (ha : aft T l[i] = some d) : (∃ h : i + 1 < l.length, d = l[i + 1]) ∨ (i = l.length - 1 ∧ inner = true ∧ d = l[0]'r.ne) := by
  rcases Nat.lt_or_ge (i + 1) l.length with h | h
  · left
    rw [r.step h] at ha
    exact ⟨h, (Option.some.inj ha).symm⟩
  · right
    have e : i = l.length - 1 := by omega
    subst e
    by_cases hin : inner = false
    · rw [(r.last r.ne).2 hin] at ha; cases ha
    · have hin : inner = true := by simpa using hin
      rw [r.turn r.ne hin] at ha
      exact ⟨rfl, hin, (Option.some.inj ha).symm⟩
theorem getD_at {l : List Nat} {i : Nat} (h : i < l.length) : l.getD i 0 = l[i] := by rw [List.getD_eq_getElem?_getD, List.getElem?_eq_getElem h]; rfl
theorem mlab_last (ho : openL T C l inner = true) : mlab T C l inner (l.length - 1) = 0 := by unfold mlab; rw [if_pos ⟨ho, rfl⟩]
theorem mlab_zero (T : List T3) (C : List (Int × Int)) (l : List Nat) (inner : Bool) : mlab T C l inner 0 = 0 := by
  unfold mlab
  rw [labL_zero]
  split <;> rfl
theorem mlab_step {i : Nat} (h : i + 1 < l.length) (hp : pB T C l[i + 1] = false) : mlab T C l inner (i + 1) = mlab T C l inner i := by
  have := labL_succ (p := pB T C) h
  rw [hp] at this
  simp only [Bool.false_eq_true, if_false, Nat.add_zero] at this
  unfold mlab
  rw [this]
theorem Ring.sect (r : Ring T v l inner) {i j : Nat} (hi : i < l.length) (hj : j < l.length) : Sect T C l[i] l[j] ↔ mlab T C l inner i = mlab T C l inner j := by
  constructor
  · intro h
    have hP : Shut T C fun x => ∃ k, ∃ hk : k < l.length, l[k] = x ∧ mlab T C l inner k = mlab T C l inner i := fun c d hc ha hn => by
      have hpd : pB T C d = false := decide_eq_false hn
      have hcl : c ∈ l ↔ d ∈ l := by
        rw [r.mem, r.mem]
        have h1 : vt T d = vt T c := by
          unfold aft at ha
          obtain ⟨o, ho, rfl⟩ := Option.map_eq_some_iff.1 ha
          obtain ⟨_, h2⟩ := facing_some ho
          have := congrArg Prod.fst h2
          rw [pv_nx] at this
          exact this
        have h2 : d < 3 * T.length := by
          unfold aft at ha
          obtain ⟨o, ho, rfl⟩ := Option.map_eq_some_iff.1 ha
          exact nx_lt (facing_some ho).1
        rw [h1]
        exact ⟨fun h => ⟨h2, h.2⟩, fun h => ⟨hc, h.2⟩⟩
      have key : ∀ a, (ha' : a < l.length) → l[a] = c → ∃ b, ∃ hb : b < l.length, l[b] = d ∧ mlab T C l inner b = mlab T C l inner a := fun a ha' he => by
        subst he
        rcases r.next ha' ha with ⟨h1, rfl⟩ | ⟨h1, h2, rfl⟩
        · exact ⟨a + 1, h1, rfl, mlab_step h1 hpd⟩
        · refine ⟨0, r.ne, rfl, ?_⟩
          rw [mlab_zero, h1, mlab_last]
          unfold openL
          rw [h2, getD_at r.ne, hpd]; rfl
      constructor
      · rintro ⟨k, hk, he, hm⟩
        obtain ⟨b, hb, e1, e2⟩ := key k hk he
        exact ⟨b, hb, e1, e2.trans hm⟩
      · rintro ⟨k, hk, he, hm⟩
        obtain ⟨a, ha', he'⟩ := List.getElem_of_mem (hcl.2 (he ▸ List.getElem_mem hk))
        obtain ⟨b, hb, e1, e2⟩ := key a ha' he'
        have : b = k := (List.getElem_inj r.nodup).1 (e1.trans he.symm)
        subst this
        exact ⟨a, ha', he', e2.symm.trans hm⟩
    obtain ⟨k, hk, he, hm⟩ := h _ hP ⟨i, hi, rfl, rfl⟩
    have : k = j := (List.getElem_inj r.nodup).1 he
    subst this
    exact hm.symm
  · have hlt : ∀ k (hk : k < l.length), l[k] < 3 * T.length := fun k hk => ((r.mem _).1 (List.getElem_mem hk)).1
    have up : ∀ n a (hb : a + n < l.length), labL (pB T C) l a = labL (pB T C) l (a + n) → Sect T C (l[a]'(by omega)) l[a + n] := fun n => by
      induction n with
      | zero => intro a hb _; exact Sect.refl _
      | succ n ih =>
        intro a hb he
        have h1 : labL (pB T C) l a = labL (pB T C) l (a + n) := Nat.le_antisymm (labL_mono _ _ (by omega) (by omega)) (by rw [he]; exact labL_mono _ _ (by omega) hb)
        have hp := labL_eq (k := a + (n + 1)) hb he (by omega) (Nat.le_refl _)
        exact (ih a (by omega) h1).trans (Sect.step (hlt _ _) (r.step hb) (of_decide_eq_false hp))
    have same : ∀ a b (ha : a < l.length) (hb : b < l.length), labL (pB T C) l a = labL (pB T C) l b → Sect T C l[a] l[b] := fun a b ha hb he => by
      rcases Nat.le_total a b with h1 | h1
      · have := up (b - a) a (by omega) (by rw [show a + (b - a) = b by omega]; exact he)
        simpa only [show a + (b - a) = b by omega] using this
      · have := up (a - b) b (by omega) (by rw [show b + (a - b) = a by omega]; exact he.symm)
        exact (by simpa only [show b + (a - b) = a by omega] using this : Sect T C l[b] l[a]).symm
    have hne := r.ne
    -- the first row and the last one, where these belong together
    have wrap : openL T C l inner = true → Sect T C (l[l.length - 1]'(by omega)) (l[0]'hne) := fun ho => by
      unfold openL at ho
      rw [Bool.and_eq_true, Bool.not_eq_true', getD_at hne] at ho
      exact Sect.step (hlt _ _) (r.turn hne ho.1) (of_decide_eq_false ho.2)
    intro h
    unfold mlab at h
    by_cases h1 : openL T C l inner = true ∧ labL (pB T C) l i = labL (pB T C) l (l.length - 1) <;> by_cases h2 : openL T C l inner = true ∧ labL (pB T C) l j = labL (pB T C) l (l.length - 1)
    · exact same i j hi hj (h1.2.trans h2.2.symm)
    · rw [if_pos h1, if_neg h2] at h
      exact ((same i _ hi (by omega) h1.2).trans (wrap h1.1)).trans (same 0 j hne hj (by rw [labL_zero, h]))
    · rw [if_neg h1, if_pos h2] at h
      exact ((same j _ hj (by omega) h2.2).trans ((wrap h2.1).trans (same 0 i hne hi (by rw [labL_zero, h])))).symm
    · rw [if_neg h1, if_neg h2] at h
      exact same i j hi hj h
theorem Ring.parts (r : Ring T v l inner) {x y : Nat} (hx : x ∈ l) (ha : aft T x = some y) (hc : ctB T C y) (h : inner = false ∨ ∃ z ∈ l, z ≠ y ∧ ctB T C z) : ¬ Sect T C x y := by
  obtain ⟨i, hi, rfl⟩ := List.getElem_of_mem hx
  have hne := r.ne
  have hpy : pB T C y = true := decide_eq_true hc
  rcases r.next hi ha with ⟨h1, rfl⟩ | ⟨h1, h2, rfl⟩
  · rw [r.sect hi h1]
    have e := labL_succ (p := pB T C) h1
    rw [if_pos hpy] at e
    have hle := labL_mono (pB T C) l (i := i + 1) (j := l.length - 1) (by omega) (by omega)
    unfold mlab
    rw [if_neg (by omega)]
    split
    · rename_i hm
      rcases h with h | ⟨z, hz, hzy, hcz⟩
      · unfold openL at hm; rw [h] at hm; exact absurd hm.1 (by simp)
      · intro h0
        obtain ⟨j, hj, rfl⟩ := List.getElem_of_mem hz
        have hpz : pB T C l[j] = true := decide_eq_true hcz
        rcases Nat.lt_trichotomy j (i + 1) with h3 | h3 | h3
        · rcases Nat.eq_zero_or_pos j with h4 | h4
          · subst h4
            unfold openL at hm
            rw [getD_at hne, hpz] at hm
            simp at hm
          · have := labL_lt h4 hj hpz
            have := labL_mono (pB T C) l (i := j) (j := i) (by omega) (by omega)
            omega
        · subst h3; exact hzy rfl
        · have := labL_lt h3 hj hpz
          have := labL_mono (pB T C) l (i := j) (j := l.length - 1) (by omega) (by omega)
          omega
    · omega
  · rw [r.sect hi hne, mlab_zero]
    rcases h with h | ⟨z, hz, hzy, hcz⟩
    · rw [h] at h2; cases h2
    · obtain ⟨j, hj, rfl⟩ := List.getElem_of_mem hz
      have hpz : pB T C l[j] = true := decide_eq_true hcz
      have hj0 : 0 < j := by
        rcases Nat.eq_zero_or_pos j with h4 | h4
        · subst h4; exact absurd rfl hzy
        · exact h4
      have := labL_lt hj0 hj hpz
      have := labL_mono (pB T C) l (i := j) (j := l.length - 1) (by omega) (by omega)
      unfold mlab openL
      rw [getD_at hne, hpy, h1]
      simp only [Bool.not_true, Bool.and_false, Bool.false_eq_true, false_and, if_false]
      omega
def endsC (L : List (Int × Int)) (v : Int) : Nat := L.countP fun e => e.1 == v || e.2 == v
def idleE (N : Int) (T : List T3) (L : List (Int × Int)) (e : Int × Int) : Bool := decide (endsC L e.1 ≤ 1) && innerAt T N e.1 && (decide (endsC L e.2 ≤ 1) && innerAt T N e.2)
structure Good (T : List T3) (L : List (Int × Int)) : Prop where
  two : ∀ e ∈ L, (∃ c, facing T e = some c) ∧ ∃ d, facing T (e.2, e.1) = some d
  once : (L.map nm).Nodup
theorem two_of_count {α : Type} {p : α → Bool} : ∀ {l : List α}, 1 < l.countP p → ∀ a ∈ l, p a = true → ∃ i j, ∃ hi : i < l.length, ∃ hj : j < l.length, i ≠ j ∧ l[i] = a ∧ p l[j] = true
  | [], h, _, _, _ => by simp at h
  | x :: l, h, a, ha, hp => by
    rw [List.countP_cons] at h
    rcases List.mem_cons.1 ha with rfl | ha
    · rw [if_pos hp] at h
      have : 0 < l.countP p := by omega
      obtain ⟨b, hb, hpb⟩ := List.countP_pos_iff.1 this
      obtain ⟨j, hj, rfl⟩ := List.getElem_of_mem hb
      exact ⟨0, j + 1, by simp, by simp; omega, by omega, rfl, hpb⟩
    · cases hx : p x with
      | true =>
        obtain ⟨j, hj, rfl⟩ := List.getElem_of_mem ha
        exact ⟨j + 1, 0, by simp; omega, by simp, by omega, rfl, hx⟩
      | false =>
        rw [hx] at h
        obtain ⟨i, j, hi, hj, h1, h2, h3⟩ := two_of_count (l := l) (by simpa using h) a ha hp
        exact ⟨i + 1, j + 1, by simp; omega, by simp; omega, by omega, h2, h3⟩
theorem corner_edge {a b : Int} {c : Nat} (h : facing T (a, b) = some c) : nx c < 3 * T.length ∧ vt T (nx c) = a ∧ vt T (nx (nx c)) = b := by
  obtain ⟨h1, h2⟩ := facing_some h
  exact ⟨nx_lt h1, congrArg Prod.fst h2, by rw [nx_nx]; exact congrArg Prod.snd h2⟩
theorem Good.corner {L : List (Int × Int)} (g : Good T L) {e : Int × Int} (he : e ∈ L) {v : Int} (hv : e.1 = v ∨ e.2 = v) : ∃ c, c < 3 * T.length ∧ vt T c = v ∧ nm (vt T c, vt T (nx c)) = nm e := by
  obtain ⟨⟨c, hc⟩, d, hd⟩ := g.two e he
  rcases hv with rfl | rfl
  · obtain ⟨h1, h2, h3⟩ := corner_edge (a := e.1) (b := e.2) hc
    exact ⟨_, h1, h2, by rw [h2, h3]⟩
  · obtain ⟨h1, h2, h3⟩ := corner_edge hd
    exact ⟨_, h1, h2, by rw [h2, h3, nm_swap]⟩
theorem parts_of (hs : Surf N T) {L : List (Int × Int)} (g : Good T L) (hi : ∀ e ∈ L, idleE N T L e = false) : Parts T (L.map nm) := fun c d hc ho hm => by
  obtain ⟨e, he, hce⟩ := List.mem_map.1 hm
  obtain ⟨a1, a2, hd, b1, b2⟩ := hs.over hc ho
  obtain ⟨k1, k2⟩ := ct_over (C := L.map nm) hs hc ho
  have hcd := k1.2 hm
  have hcc := k2.2 hm
  -- one of its ends
  have hend : ∃ w, (e.1 = w ∨ e.2 = w) ∧ (innerAt T N w = false ∨ 1 < endsC L w) := by
    have := hi e he
    unfold idleE at this
    rw [Bool.and_eq_false_iff, Bool.and_eq_false_iff, Bool.and_eq_false_iff, decide_eq_false_iff_not, decide_eq_false_iff_not] at this
    rcases this with (h | h) | (h | h)
    · exact ⟨_, .inl rfl, .inr (by omega)⟩
    · exact ⟨_, .inl rfl, .inl h⟩
    · exact ⟨_, .inr rfl, .inr (by omega)⟩
    · exact ⟨_, .inr rfl, .inl h⟩
  obtain ⟨w, hw, hor⟩ := hend
  have key : ∀ x y, aft T x = some y → ctB T (L.map nm) y → nm (vt T y, vt T (nx y)) = nm e → vt T x = w → x < 3 * T.length → ¬ Sect T (L.map nm) x y := fun x y ha hcy hye hxw hx => by
    have hr := hs.rng x hx
    rw [hxw] at hr
    obtain ⟨_, hring⟩ := hs.ring_in hr
    refine hring.parts ((hring.mem x).2 ⟨hx, hxw⟩) ha hcy ?_
    rcases hor with h | h
    · exact .inl h
    · right
      unfold endsC at h
      obtain ⟨i, j, hi', hj', hij, h1, h2⟩ := two_of_count h e he (by rcases hw with h | h <;> rw [h] <;> simp)
      have h2 : (L[j]).1 = w ∨ (L[j]).2 = w := by simpa using h2
      obtain ⟨z, z1, z2, z3⟩ := g.corner (List.getElem_mem hj') h2
      refine ⟨z, (hring.mem z).2 ⟨z1, z2⟩, fun h9 => ?_, ?_⟩
      · subst h9
        rw [z3, ← h1] at hye
        have g1 : (L.map nm)[i]'(by rw [List.length_map]; exact hi') = (L.map nm)[j]'(by rw [List.length_map]; exact hj') := by rw [List.getElem_map, List.getElem_map]; exact hye.symm
        exact hij ((List.getElem_inj g.once).1 g1)
      · unfold ctB
        rw [z3]
        exact List.mem_map_of_mem (List.getElem_mem hj')
  rintro ⟨s1, s2⟩
  have hvc : nm (vt T (nx c), vt T (pv c)) = nm e := hce.symm
  rcases nm_eq.1 (show nm (vt T (nx c), vt T (pv c)) = nm (e.1, e.2) from hvc) with ⟨h1, h2⟩ | ⟨h1, h2⟩
  · rcases hw with h | h
    · -- w = vt (nx c)
      exact key _ _ a2 hcc (by rw [b2]; exact hvc) (by have := hs.aft_vt a2; rw [← this, h1, h]) (pv_lt hd) s1.symm
    · exact key _ _ a1 hcd (by rw [b1, nm_swap]; exact hvc) (by rw [h2, h]) (pv_lt hc) s2
  · rcases hw with h | h
    · exact key _ _ a1 hcd (by rw [b1, nm_swap]; exact hvc) (by rw [h2, h]) (pv_lt hc) s2
    · exact key _ _ a2 hcc (by rw [b2]; exact hvc) (by have := hs.aft_vt a2; rw [← this, h1, h]) (pv_lt hd) s1.symm
end
end Go.Mesh

namespace Go.Mesh
theorem gindH {α : Type} {motive : List α → Prop} (h1 : ∀ l a, (0 < l.length → motive l) → 0 < (l ++ [a]).length → motive (l ++ [a])) : ∀ l, 0 < l.length → motive l := fun l => by
  have key : ∀ m : List α, 0 < m.reverse.length → motive m.reverse := fun m => by
    induction m with
    | nil => intro h; simp at h
    | cons a m ih => intro h; rw [List.reverse_cons] at h ⊢; exact h1 _ a ih h
  have := key l.reverse
  rwa [List.reverse_reverse] at this
def splS (p : Nat → Bool) (s : List (List Nat) × List Nat) (c : Nat) : List (List Nat) × List Nat :=
  if s.2.length = 0 then (s.1, s.2 ++ [c]) else if p c = true then (s.1 ++ [s.2], [c]) else (s.1, s.2 ++ [c])
def splL (p : Nat → Bool) (l : List Nat) : List (List Nat) × List Nat := l.foldl (splS p) ([], [])
theorem splL_snoc (p : Nat → Bool) (l : List Nat) (c : Nat) : splL p (l ++ [c]) = splS p (splL p l) c := by unfold splL; rw [List.foldl_append]; rfl
theorem labL_snoc (p : Nat → Bool) (l : List Nat) (c : Nat) {i : Nat} (hi : i < l.length) : labL p (l ++ [c]) i = labL p l i := by
  unfold labL
  rw [List.take_append_of_le_length (by omega)]
def RowsBy (f : Nat → Nat) (l : List Nat) (R : List (List Nat)) : Prop := ∀ r row, R[r]? = some row → row ≠ [] ∧ ∀ c, c ∈ row ↔ ∃ i, ∃ h : i < l.length, l[i] = c ∧ f i = r
theorem splL_rows (p : Nat → Bool) : ∀ l : List Nat, 0 < l.length → (splL p l).2 ≠ [] ∧ ((splL p l).1 ++ [(splL p l).2]).length = labL p l (l.length - 1) + 1 ∧ RowsBy (labL p l) l ((splL p l).1 ++ [(splL p l).2]) := by
  refine gindH fun l c ih => ?_
  intro _
  rcases Nat.eq_zero_or_pos l.length with h0 | h0
  · have : l = [] := List.length_eq_zero_iff.1 h0
    subst this
    refine ⟨by simp [splL, splS], by simp [splL, splS, labL], fun r row hr => ?_⟩
    have e : (splL p ([] ++ [c])).1 ++ [(splL p ([] ++ [c])).2] = [[c]] := by simp [splL, splS]
    rw [e] at hr
    cases r with
    | succ r => simp at hr
    | zero =>
      have : [c] = row := by simpa using hr
      subst this
      refine ⟨by simp, fun x => ?_⟩
      constructor
      · intro hx
        have : x = c := by simpa using hx
        subst this
        exact ⟨0, by simp, rfl, labL_zero _ _⟩
      · rintro ⟨i, hi, h1, _⟩
        have : i = 0 := by simp at hi; exact hi
        subst this
        simp at h1
        simp [h1]
  · obtain ⟨h1, h2, h3⟩ := ih h0
    have hlast : labL p (l ++ [c]) ((l ++ [c]).length - 1) = labL p l (l.length - 1) + if p c = true then 1 else 0 := by
      have := labL_succ (p := p) (l := l ++ [c]) (i := l.length - 1) (by simp; omega)
      have e : (l ++ [c])[l.length - 1 + 1]'(by simp; omega) = c := by
        have : (l ++ [c])[l.length - 1 + 1]? = some c := by rw [show l.length - 1 + 1 = l.length by omega]; simp
        exact (List.getElem?_eq_some_iff.1 this).2
      have e2 : labL p (l ++ [c]) (l.length - 1) = labL p l (l.length - 1) := labL_snoc p l c (by omega)
      rw [e, e2] at this
      rw [show (l ++ [c]).length - 1 = l.length - 1 + 1 by simp; omega, this]
    have hold : ∀ i, i < l.length → labL p (l ++ [c]) i = labL p l i := fun i hi => labL_snoc p l c hi
    have hi9 : ∀ i, (h : i < (l ++ [c]).length) → (∃ h' : i < l.length, (l ++ [c])[i] = l[i]) ∨ (i = l.length ∧ (l ++ [c])[i] = c) := fun i h => by
      rcases Nat.lt_or_ge i l.length with h4 | h4
      · exact .inl ⟨h4, List.getElem_append_left h4⟩
      · right
        have : i = l.length := by simp at h; omega
        subst this
        exact ⟨rfl, by simp⟩
    have hlen0 : (l ++ [c]).length - 1 = l.length := by simp
    rw [hlen0] at hlast
    rw [splL_snoc]
    have hne : (splL p l).2.length ≠ 0 := fun h => h1 (List.length_eq_zero_iff.1 h)
    cases hp : p c with
    | true =>
      rw [hp, if_pos rfl] at hlast
      have e : splS p (splL p l) c = ((splL p l).1 ++ [(splL p l).2], [c]) := by unfold splS; rw [if_neg hne, if_pos hp]
      rw [e]
      refine ⟨by simp, by rw [hlen0, List.length_append, h2, hlast]; rfl, fun r row hr => ?_⟩
      rcases Nat.lt_or_ge r ((splL p l).1 ++ [(splL p l).2]).length with h4 | h4
      · rw [List.getElem?_append_left h4] at hr
        obtain ⟨g1, g2⟩ := h3 r row hr
        refine ⟨g1, fun x => (g2 x).trans ⟨?_, ?_⟩⟩
        · rintro ⟨i, hi, g3, g4⟩
          exact ⟨i, by simp; omega, by rw [List.getElem_append_left hi]; exact g3, by rw [hold i hi]; exact g4⟩
        · rintro ⟨i, hi, g3, g4⟩
          rcases hi9 i hi with ⟨h', g5⟩ | ⟨rfl, _⟩
          · exact ⟨i, h', by rw [← g5]; exact g3, by rw [← hold i h']; exact g4⟩
          · omega
      · have hr0 : r = labL p l (l.length - 1) + 1 := by
          have := (List.getElem?_eq_some_iff.1 hr).1
          rw [List.length_append] at this
          simp only [List.length_cons, List.length_nil] at this
          omega
        rw [List.getElem?_append_right h4, h2, hr0, Nat.sub_self] at hr
        have : [c] = row := by simpa using hr
        subst this
        refine ⟨by simp, fun x => ⟨fun hx => ?_, ?_⟩⟩
        · have : x = c := by simpa using hx
          subst this
          exact ⟨l.length, by simp, by simp, by rw [hlast, hr0]⟩
        · rintro ⟨i, hi, g3, g4⟩
          rcases hi9 i hi with ⟨h', g5⟩ | ⟨rfl, g5⟩
          · have := labL_mono p l (i := i) (j := l.length - 1) (by omega) (by omega)
            rw [hold i h'] at g4
            omega
          · rw [g5] at g3; simp [g3]
    | false =>
      rw [hp] at hlast
      simp only [Bool.false_eq_true, if_false, Nat.add_zero] at hlast
      have e : splS p (splL p l) c = ((splL p l).1, (splL p l).2 ++ [c]) := by unfold splS; rw [if_neg hne, hp]; rfl
      rw [e]
      have hl1 : (splL p l).1.length = labL p l (l.length - 1) := by
        rw [List.length_append] at h2
        simp only [List.length_cons, List.length_nil] at h2
        omega
      refine ⟨by simp, by rw [hlen0, List.length_append, hlast, hl1]; rfl, fun r row hr => ?_⟩
      rcases Nat.lt_or_ge r (splL p l).1.length with h4 | h4
      · rw [List.getElem?_append_left h4] at hr
        obtain ⟨g1, g2⟩ := h3 r row (by rw [List.getElem?_append_left h4]; exact hr)
        refine ⟨g1, fun x => (g2 x).trans ⟨?_, ?_⟩⟩
        · rintro ⟨i, hi, g3, g4⟩
          exact ⟨i, by simp; omega, by rw [List.getElem_append_left hi]; exact g3, by rw [hold i hi]; exact g4⟩
        · rintro ⟨i, hi, g3, g4⟩
          rcases hi9 i hi with ⟨h', g5⟩ | ⟨rfl, _⟩
          · exact ⟨i, h', by rw [← g5]; exact g3, by rw [← hold i h']; exact g4⟩
          · omega
      · have hr0 : r = (splL p l).1.length := by
          have := (List.getElem?_eq_some_iff.1 hr).1
          rw [List.length_append] at this
          simp only [List.length_cons, List.length_nil] at this
          omega
        subst hr0
        have : (splL p l).2 ++ [c] = row := by simpa using hr
        subst this
        obtain ⟨_, g2⟩ := h3 (splL p l).1.length (splL p l).2 (by simp)
        refine ⟨by simp, fun x => ?_⟩
        rw [List.mem_append, g2 x]
        constructor
        · rintro (⟨i, hi, g3, g4⟩ | hx)
          · exact ⟨i, by simp; omega, by rw [List.getElem_append_left hi]; exact g3, by rw [hold i hi]; exact g4⟩
          · have : x = c := by simpa using hx
            subst this
            exact ⟨l.length, by simp, by simp, by rw [hlast, hl1]⟩
        · rintro ⟨i, hi, g3, g4⟩
          rcases hi9 i hi with ⟨h', g5⟩ | ⟨rfl, g5⟩
          · exact .inl ⟨i, h', by rw [← g5]; exact g3, by rw [← hold i h']; exact g4⟩
          · right; rw [g5] at g3; simp [g3]
def mrgL (o : Bool) (R : List (List Nat)) : List (List Nat) := if o = true ∧ 1 < R.length then (R.set 0 (R.getD (R.length - 1) [] ++ R.getD 0 [])).take (R.length - 1) else R
section
variable {N : Int} {T : List T3} {C : List (Int × Int)} {v : Int} {l : List Nat} {inner : Bool}
def rows0 (T : List T3) (C : List (Int × Int)) (l : List Nat) (inner : Bool) : List (List Nat) := mrgL (openL T C l inner) ((splL (pB T C) l).1 ++ [(splL (pB T C) l).2])
theorem Ring.rows (r : Ring T v l inner) : RowsBy (mlab T C l inner) l (rows0 T C l inner) ∧ ∀ i, i < l.length → mlab T C l inner i < (rows0 T C l inner).length := by
  obtain ⟨_, h2, h3⟩ := splL_rows (pB T C) l r.ne
  unfold rows0 mrgL
  generalize hR : (splL (pB T C) l).1 ++ [(splL (pB T C) l).2] = R at *
  split
  · rename_i ho
    obtain ⟨ho, hl⟩ := ho
    have hm : ∀ i, mlab T C l inner i = if labL (pB T C) l i = labL (pB T C) l (l.length - 1) then 0 else labL (pB T C) l i := fun i => by unfold mlab; rw [ho]; simp
    have hrl : ((R.set 0 (R.getD (R.length - 1) [] ++ R.getD 0 [])).take (R.length - 1)).length = R.length - 1 := by rw [List.length_take, List.length_set]; omega
    refine ⟨fun q row hq => ?_, fun i hi => ?_⟩
    · have hq1 := (List.getElem?_eq_some_iff.1 hq).1
      rw [hrl] at hq1
      rw [List.getElem?_take_of_lt hq1] at hq
      by_cases hq0 : q = 0
      · subst hq0
        rw [List.getElem?_set_self (by omega)] at hq
        have hq := (Option.some.inj hq).symm
        obtain ⟨a1, a2⟩ := h3 0 _ (List.getElem?_eq_getElem (by omega))
        obtain ⟨b1, b2⟩ := h3 (R.length - 1) _ (List.getElem?_eq_getElem (by omega))
        rw [List.getD_eq_getElem?_getD, List.getD_eq_getElem?_getD, List.getElem?_eq_getElem (show 0 < R.length by omega), List.getElem?_eq_getElem (show R.length - 1 < R.length by omega)] at hq
        simp only [Option.getD_some] at hq
        subst hq
        refine ⟨fun h => a1 (List.append_eq_nil_iff.1 h).2, fun c => ?_⟩
        rw [List.mem_append, a2 c, b2 c]
        constructor
        · rintro (⟨i, hi, g1, g2⟩ | ⟨i, hi, g1, g2⟩)
          · exact ⟨i, hi, g1, by rw [hm, if_pos (by omega)]⟩
          · exact ⟨i, hi, g1, by rw [hm]; split <;> omega⟩
        · rintro ⟨i, hi, g1, g2⟩
          rw [hm] at g2
          split at g2
          · rename_i g3
            exact .inl ⟨i, hi, g1, by omega⟩
          · exact .inr ⟨i, hi, g1, g2⟩
      · rw [List.getElem?_set_ne (fun e => hq0 e.symm)] at hq
        obtain ⟨a1, a2⟩ := h3 q row hq
        refine ⟨a1, fun c => (a2 c).trans ⟨?_, ?_⟩⟩
        · rintro ⟨i, hi, g1, g2⟩
          exact ⟨i, hi, g1, by rw [hm, if_neg (by omega)]; exact g2⟩
        · rintro ⟨i, hi, g1, g2⟩
          rw [hm] at g2
          split at g2
          · omega
          · exact ⟨i, hi, g1, g2⟩
    · rw [hrl, hm]
      have := labL_mono (pB T C) l (i := i) (j := l.length - 1) (by omega) (by omega)
      split <;> omega
  · rename_i hn
    have hm : ∀ i, i < l.length → mlab T C l inner i = labL (pB T C) l i := fun i hi => by
      unfold mlab
      split
      · rename_i ho
        have : R.length ≤ 1 := by
          refine Classical.byContradiction fun h => hn ⟨ho.1, by omega⟩
        have := labL_mono (pB T C) l (i := i) (j := l.length - 1) (by omega) (by omega)
        omega
      · rfl
    refine ⟨fun q row hq => ?_, fun i hi => ?_⟩
    · obtain ⟨a1, a2⟩ := h3 q row hq
      refine ⟨a1, fun c => (a2 c).trans ⟨?_, ?_⟩⟩
      · rintro ⟨i, hi, g1, g2⟩; exact ⟨i, hi, g1, by rw [hm i hi]; exact g2⟩
      · rintro ⟨i, hi, g1, g2⟩; exact ⟨i, hi, g1, by rw [← hm i hi]; exact g2⟩
    · rw [hm i hi]
      have := labL_mono (pB T C) l (i := i) (j := l.length - 1) (by omega) (by omega)
      omega
def minL (row : List Nat) : Nat := row.foldl min (row.headD 0)
theorem minL_le_aux : ∀ (l : List Nat) (a : Nat), l.foldl min a ≤ a ∧ ∀ x ∈ l, l.foldl min a ≤ x
  | [], a => ⟨Nat.le_refl a, fun _ h => by cases h⟩
  | y :: l, a => by
    obtain ⟨h1, h2⟩ := minL_le_aux l (min a y)
    refine ⟨by rw [List.foldl_cons]; omega, fun x hx => ?_⟩
    rw [List.foldl_cons]
    rcases List.mem_cons.1 hx with rfl | hx
    · omega
    · exact h2 x hx
theorem minL_mem_aux : ∀ (l : List Nat) (a : Nat), l.foldl min a = a ∨ l.foldl min a ∈ l
  | [], a => .inl rfl
  | y :: l, a => by
    rw [List.foldl_cons]
    rcases minL_mem_aux l (min a y) with h | h
    · rw [h]
      rcases Nat.le_total a y with h1 | h1
      · rw [Nat.min_eq_left h1]; exact .inl rfl
      · rw [Nat.min_eq_right h1]; exact .inr (List.mem_cons_self ..)
    · exact .inr (List.mem_cons_of_mem _ h)
theorem minL_mem {row : List Nat} (h : row ≠ []) : minL row ∈ row := by
  unfold minL
  cases row with
  | nil => exact absurd rfl h
  | cons a l =>
    rcases minL_mem_aux (a :: l) a with h1 | h1
    · show List.foldl min a (a :: l) ∈ a :: l
      rw [h1]; exact List.mem_cons_self ..
    · exact h1
theorem minL_le {row : List Nat} {x : Nat} (h : x ∈ row) : minL row ≤ x := (minL_le_aux row _).2 x h
open Classical in
noncomputable def hdV (T : List T3) (C : List (Int × Int)) (v : Int) : List Nat := (List.range (3 * T.length)).filter fun c => @decide (vt T c = v ∧ Head T C c) (Classical.propDecidable _)
theorem mem_hdV {c : Nat} : c ∈ hdV T C v ↔ c < 3 * T.length ∧ vt T c = v ∧ Head T C c := by
  unfold hdV
  rw [List.mem_filter, List.mem_range]
  exact and_congr_right fun _ => @decide_eq_true_iff _ (Classical.propDecidable _)
theorem hdV_lt : (hdV T C v).Pairwise (· < ·) := List.pairwise_lt_range.sublist List.filter_sublist
theorem exV_lt : (exV T C v).Pairwise (· < ·) := List.pairwise_lt_range.sublist List.filter_sublist
theorem lt_lists {l m : List Nat} (hl : l.Pairwise (· < ·)) (hm : m.Pairwise (· < ·)) (h : ∀ x, x ∈ l ↔ x ∈ m) : l = m := by
  have n1 : l.Nodup := hl.imp fun h => by omega
  have n2 : m.Nodup := hm.imp fun h => by omega
  exact List.Perm.eq_of_pairwise (le := (· < ·)) (fun a b _ _ h1 h2 => by omega) hl hm ((List.perm_ext_iff_of_nodup n1 n2).2 h)
theorem hdV_tail (hs : Surf N T) (hv : 0 ≤ v ∧ v < N) : ∃ b, hdV T C v = b :: exV T C v ∧ b < 3 * T.length ∧ vt T b = v ∧ ∀ e, e < b → vt T e ≠ v := by
  obtain ⟨b, hb⟩ := hs.corner_some hv.1 hv.2
  obtain ⟨_, g2, g3, g4⟩ := (leastFrom_some _ _ _ _).1 hb
  have g3 : vt T b = v := by simpa using g3
  have g5 : ∀ e, e < b → vt T e ≠ v := fun e he h => by
    have := g4 e (by omega) he
    rw [beq_eq_false_iff_ne] at this
    exact this h
  refine ⟨b, lt_lists hdV_lt (List.pairwise_cons.2 ⟨fun x hx => ?_, exV_lt⟩) fun x => ?_, by omega, g3, g5⟩
  · obtain ⟨_, h2, _, d, hd, h3⟩ := mem_exV.1 hx
    rcases Nat.lt_trichotomy b x with h | h | h
    · exact h
    · subst h; exact absurd (h3.trans h2) (g5 d hd)
    · exact absurd h2 (g5 x h)
  · rw [mem_hdV, List.mem_cons, mem_exV]
    constructor
    · rintro ⟨h1, h2, h3⟩
      rcases Nat.lt_trichotomy x b with h | h | h
      · exact absurd h2 (g5 x h)
      · exact .inl h
      · exact .inr ⟨h1, h2, h3, b, h, by rw [g3, h2]⟩
    · rintro (rfl | ⟨h1, h2, h3, _⟩)
      · exact ⟨by omega, g3, fun d hd h => g5 d hd (by rw [← h.vt hs, g3])⟩
      · exact ⟨h1, h2, h3⟩
def Secs (T : List T3) (C : List (Int × Int)) (H : List Nat) (S : List (List Nat)) : Prop := S.length = H.length ∧ ∀ (k : Nat) (row : List Nat) (h : Nat), S[k]? = some row → H[k]? = some h → ∀ c, c ∈ row ↔ c < 3 * T.length ∧ Sect T C h c
theorem Ring.secs (hs : Surf N T) (r : Ring T v l inner) {S : List (List Nat)} (hp : S.Perm (rows0 T C l inner)) (ho : S.Pairwise fun x y => ¬ minL y < minL x) : Secs T C (hdV T C v) S := by
  obtain ⟨h1, h2⟩ := r.rows (C := C)
  have hrow : ∀ row ∈ rows0 T C l inner, row ≠ [] ∧ ∀ c ∈ row, ∀ d, d ∈ row ↔ d < 3 * T.length ∧ Sect T C c d := fun row hrow => by
    obtain ⟨q, hq⟩ := List.getElem?_of_mem hrow
    obtain ⟨g1, g2⟩ := h1 q row hq
    refine ⟨g1, fun c hc d => ?_⟩
    obtain ⟨i, hi, rfl, hm⟩ := (g2 c).1 hc
    have hcl := (r.mem _).1 (List.getElem_mem hi)
    rw [g2 d]
    constructor
    · rintro ⟨j, hj, rfl, hm2⟩
      exact ⟨((r.mem _).1 (List.getElem_mem hj)).1, (r.sect hi hj).2 (hm.trans hm2.symm)⟩
    · rintro ⟨hd, hsd⟩
      have hdl : d ∈ l := (r.mem d).2 ⟨hd, by rw [hsd.vt hs]; exact hcl.2⟩
      obtain ⟨j, hj, rfl⟩ := List.getElem_of_mem hdl
      exact ⟨j, hj, rfl, ((r.sect hi hj).1 hsd).symm.trans hm⟩
  have hmem : ∀ row ∈ rows0 T C l inner, minL row ∈ hdV T C v ∧ minL row ∈ row := fun row hr => by
    obtain ⟨g1, g2⟩ := hrow row hr
    have hm := minL_mem g1
    have hlt := ((g2 _ hm _).1 hm).1
    refine ⟨mem_hdV.2 ⟨hlt, ?_, fun d hd hsd => ?_⟩, hm⟩
    · obtain ⟨q, hq⟩ := List.getElem?_of_mem hr
      obtain ⟨i, hi, e, _⟩ := ((h1 q row hq).2 _).1 hm
      rw [← e]; exact ((r.mem _).1 (List.getElem_mem hi)).2
    · have := minL_le ((g2 _ hm d).2 ⟨by omega, hsd.symm⟩)
      omega
  have hnd : (rows0 T C l inner).Pairwise fun x y => minL x ≠ minL y := by
    refine List.pairwise_iff_getElem.2 fun i j hi hj hij he => ?_
    obtain ⟨_, b1⟩ := hmem _ (List.getElem_mem hi)
    obtain ⟨_, b2⟩ := hmem _ (List.getElem_mem hj)
    rw [he] at b1
    obtain ⟨k, hk, e1, e2⟩ := ((h1 i _ (List.getElem?_eq_getElem hi)).2 _).1 b1
    obtain ⟨m, hm, e3, e4⟩ := ((h1 j _ (List.getElem?_eq_getElem hj)).2 _).1 b2
    have : k = m := (List.getElem_inj r.nodup).1 (e1.trans e3.symm)
    subst this
    omega
  have hlt : (S.map minL).Pairwise (· < ·) := by
    rw [List.pairwise_map]
    have h9 : S.Pairwise fun x y => minL x ≠ minL y := (hp.pairwise_iff (fun {x y} h => fun e => h e.symm)).2 hnd
    exact (List.Pairwise.and ho h9).imp fun ⟨a, b⟩ => by omega
  have he : S.map minL = hdV T C v := lt_lists hlt hdV_lt fun x => by
    rw [List.mem_map]
    constructor
    · rintro ⟨row, hr, rfl⟩
      exact (hmem row (hp.mem_iff.1 hr)).1
    · intro hx
      obtain ⟨g1, g2, g3⟩ := mem_hdV.1 hx
      have hxl : x ∈ l := (r.mem x).2 ⟨g1, g2⟩
      obtain ⟨i, hi, rfl⟩ := List.getElem_of_mem hxl
      have hq := h2 i hi
      have hrw := List.getElem_mem hq
      obtain ⟨k1, k2⟩ := hrow _ hrw
      have hxr := ((h1 _ _ (List.getElem?_eq_getElem hq)).2 l[i]).2 ⟨i, hi, rfl, rfl⟩
      refine ⟨_, hp.mem_iff.2 hrw, ?_⟩
      obtain ⟨m1, m2⟩ := hmem _ hrw
      exact head_one (mem_hdV.1 m1).2.2 g3 ((k2 _ m2 _).1 hxr).2
  refine ⟨by rw [← he, List.length_map], fun k row h hk hh c => ?_⟩
  rw [← he, List.getElem?_map, hk] at hh
  have hh : minL row = h := by simpa using hh
  subst hh
  have hr := hp.mem_iff.1 (List.mem_of_getElem? hk)
  exact (hrow row hr).2 _ (hmem row hr).2 c
end
end Go.Mesh

namespace Go.Mesh
section
variable {N : Int} {T : List T3} {L : List (Int × Int)} {v : Int}
theorem nodup_map_inj {α β : Type} {f : α → β} : ∀ {l : List α}, l.Nodup → (∀ a ∈ l, ∀ b ∈ l, f a = f b → a = b) → (l.map f).Nodup
  | [], _, _ => List.nodup_nil
  | a :: l, hn, hf => by
    rw [List.map_cons, List.nodup_cons]
    obtain ⟨h1, h2⟩ := List.nodup_cons.1 hn
    refine ⟨fun h => ?_, nodup_map_inj h2 fun x hx y hy => hf x (List.mem_cons_of_mem _ hx) y (List.mem_cons_of_mem _ hy)⟩
    obtain ⟨b, hb, he⟩ := List.mem_map.1 h
    exact h1 (hf a (List.mem_cons_self ..) b (List.mem_cons_of_mem _ hb) he.symm ▸ hb)
theorem same_len {α : Type} [DecidableEq α] {l m : List α} (hl : l.Nodup) (hm : m.Nodup) (h : ∀ x, x ∈ l ↔ x ∈ m) : l.length = m.length := ((List.perm_ext_iff_of_nodup hl hm).2 h).length_eq
theorem cut_at (hs : Surf N T) (g : Good T L) {e : Int × Int} (he : e ∈ L) : e.1 ≠ e.2 := by
  obtain ⟨⟨c, hc⟩, _⟩ := g.two e he
  obtain ⟨h1, h2⟩ := facing_some hc
  have := hs.loop3 h1
  rw [show vt T (nx c) = e.1 from congrArg Prod.fst h2, show vt T (pv c) = e.2 from congrArg Prod.snd h2] at this
  exact this
theorem nm_ends {a b x y : Int} (h : nm (a, b) = nm (x, y)) : x = a ∨ y = a := by
  rcases nm_eq.1 h with ⟨h1, _⟩ | ⟨h1, _⟩
  · exact .inl h1.symm
  · exact .inr h1.symm
theorem ends_ring (hs : Surf N T) (g : Good T L) {l : List Nat} {inner : Bool} (r : Ring T v l inner) : endsC L v = l.countP (pB T (L.map nm)) := by
  unfold endsC
  rw [List.countP_eq_length_filter, List.countP_eq_length_filter]
  have hn1 : ((L.filter fun e => e.1 == v || e.2 == v).map nm).Nodup := g.once.sublist (List.filter_sublist.map nm)
  have hn2 : ((l.filter (pB T (L.map nm))).map fun c => nm (vt T c, vt T (nx c))).Nodup := by
    refine nodup_map_inj (r.nodup.sublist List.filter_sublist) fun a ha b hb he => ?_
    have ha := (r.mem a).1 (List.mem_filter.1 ha).1
    have hb := (r.mem b).1 (List.mem_filter.1 hb).1
    rw [ha.2, hb.2] at he
    have hab : vt T (nx a) = vt T (nx b) := by rcases nm_eq.1 he with ⟨_, h⟩ | ⟨h1, h2⟩ <;> omega
    have : eg T (pv a) = eg T (pv b) := by unfold eg; rw [nx_pv, nx_pv, pv_pv, pv_pv, ha.2, hb.2, hab]
    exact pv_inj (hs.once _ _ (pv_lt ha.1) (pv_lt hb.1) this)
  have := same_len hn1 hn2 fun x => by
    rw [List.mem_map, List.mem_map]
    constructor
    · rintro ⟨e, he, rfl⟩
      obtain ⟨h1, h2⟩ := List.mem_filter.1 he
      obtain ⟨c, c1, c2, c3⟩ := g.corner h1 (v := v) (by simpa using h2)
      refine ⟨c, List.mem_filter.2 ⟨(r.mem c).2 ⟨c1, c2⟩, decide_eq_true ?_⟩, c3⟩
      unfold ctB
      rw [c3]
      exact List.mem_map_of_mem h1
    · rintro ⟨c, hc, rfl⟩
      obtain ⟨h1, h2⟩ := List.mem_filter.1 hc
      obtain ⟨e, he, h3⟩ := List.mem_map.1 (of_decide_eq_true h2)
      refine ⟨e, List.mem_filter.2 ⟨he, ?_⟩, h3⟩
      have h4 := nm_ends (a := vt T c) (b := vt T (nx c)) (x := e.1) (y := e.2) h3.symm
      rw [((r.mem c).1 h1).2] at h4
      simpa using h4
  rw [List.length_map, List.length_map] at this
  exact this
theorem countP_labL (p : Nat → Bool) : ∀ l : List Nat, 0 < l.length → l.countP p = (if p (l.getD 0 0) = true then 1 else 0) + labL p l (l.length - 1)
  | [], h => by simp at h
  | a :: l, _ => by
    unfold labL
    rw [List.take_of_length_le (by simp), List.countP_cons]
    simp only [List.drop_succ_cons, List.drop_zero, List.getD_cons_zero]
    omega
theorem mrgL_len (o : Bool) (R : List (List Nat)) : (mrgL o R).length = if o = true ∧ 1 < R.length then R.length - 1 else R.length := by
  unfold mrgL
  split
  · rw [List.length_take, List.length_set]; omega
  · rfl
theorem hdV_len (hs : Surf N T) (g : Good T L) (hv : 0 ≤ v ∧ v < N) : (hdV T (L.map nm) v).length = if innerAt T N v = false then endsC L v + 1 else max 1 (endsC L v) := by
  obtain ⟨hne, r⟩ := hs.ring_in hv
  have hp : (rows0 T (L.map nm) (ringAt T N v) (innerAt T N v)).mergeSort (fun x y => decide (minL x ≤ minL y)) |>.Perm (rows0 T (L.map nm) (ringAt T N v) (innerAt T N v)) := List.mergeSort_perm _ _
  have ho : ((rows0 T (L.map nm) (ringAt T N v) (innerAt T N v)).mergeSort (fun x y => decide (minL x ≤ minL y))).Pairwise fun x y => ¬ minL y < minL x := by
    refine (List.pairwise_mergeSort (le := fun x y => decide (minL x ≤ minL y)) (fun a b c h1 h2 => ?_) (fun a b => ?_) _).imp fun h => ?_
    · simp only [decide_eq_true_eq] at *; omega
    · simp only [Bool.or_eq_true, decide_eq_true_eq]; omega
    · simp only [decide_eq_true_eq] at h; omega
  have hsec := r.secs hs hp ho
  rw [← hsec.1, hp.length_eq]
  obtain ⟨_, h2, _⟩ := splL_rows (pB T (L.map nm)) (ringAt T N v) hne
  unfold rows0
  rw [mrgL_len, h2, ends_ring hs g r, countP_labL _ _ hne]
  unfold openL
  cases hin : innerAt T N v with
  | false =>
    -- a border vertex's first edge isn't cut
    have h0 : pB T (L.map nm) ((ringAt T N v).getD 0 0) = false := by
      rw [getD_at hne]
      refine decide_eq_false fun hc => ?_
      obtain ⟨e, he, h3⟩ := List.mem_map.1 hc
      have hl := (r.mem _).1 (List.getElem_mem hne)
      have hb := (r.head hne).2 hin
      unfold bef at hb
      rw [Option.map_eq_none_iff] at hb
      unfold opp at hb
      rw [pv_pv, nx_pv] at hb
      obtain ⟨⟨c, hc⟩, d, hd⟩ := g.two e he
      rcases nm_eq.1 (show nm (e.1, e.2) = nm (vt T (ringAt T N v)[0], vt T (nx (ringAt T N v)[0])) from h3) with ⟨e1, e2⟩ | ⟨e1, e2⟩
      · rw [e1, e2] at hd; rw [hb] at hd; cases hd
      · rw [show e = (e.1, e.2) from rfl, e1, e2] at hc; rw [hb] at hc; cases hc
    rw [h0]
    simp
  | true =>
    cases pB T (L.map nm) ((ringAt T N v).getD 0 0) <;> simp <;> (try split) <;> omega
theorem cut_corners (hs : Surf N T) (g : Good T L) : ((List.range (3 * T.length)).filter fun c => decide (nm (eg T c) ∈ L.map nm)).length = 2 * L.length := by
  let f := fun e : Int × Int => (facing T e).getD 0
  have hf : ∀ e ∈ L, facing T e = some (f e) ∧ facing T (e.2, e.1) = some (f (e.2, e.1)) := fun e he => by
    obtain ⟨⟨c, hc⟩, d, hd⟩ := g.two e he
    constructor
    · show facing T e = some ((facing T e).getD 0); rw [hc]; rfl
    · show facing T (e.2, e.1) = some ((facing T (e.2, e.1)).getD 0); rw [hd]; rfl
  have hlen : ∀ l : List (Int × Int), (l.flatMap fun e => [f e, f (e.2, e.1)]).length = 2 * l.length := fun l => by
    induction l with
    | nil => rfl
    | cons e l ih => rw [List.flatMap_cons, List.length_append, ih]; simp; omega
  rw [← hlen L]
  refine same_len (List.nodup_range.sublist List.filter_sublist) ?_ fun c => ?_
  · -- no corner twice
    have hon := g.once
    have hne := fun e he => cut_at hs g (e := e) he
    have key : ∀ l : List (Int × Int), (∀ e ∈ l, e ∈ L) → (l.map nm).Nodup → (l.flatMap fun e => [f e, f (e.2, e.1)]).Nodup := fun l => by
      induction l with
      | nil => intro _ _; exact List.nodup_nil
      | cons e l ih =>
        intro hm hn
        rw [List.map_cons, List.nodup_cons] at hn
        rw [List.flatMap_cons]
        have he := hm e (List.mem_cons_self ..)
        obtain ⟨f1, f2⟩ := hf e he
        have g1 := (facing_some f1).2
        have g2 := (facing_some f2).2
        refine List.nodup_append.2 ⟨?_, ih (fun x hx => hm x (List.mem_cons_of_mem _ hx)) hn.2, fun a ha b hb hab => ?_⟩
        · rw [List.nodup_cons]
          refine ⟨fun h9 => ?_, by simp⟩
          have h9 : f e = f (e.2, e.1) := by simpa using h9
          rw [h9, g2] at g1
          exact hne e he (congrArg Prod.snd g1)
        · subst hab
          obtain ⟨e', he', hb⟩ := List.mem_flatMap.1 hb
          obtain ⟨k1, k2⟩ := hf e' (hm e' (List.mem_cons_of_mem _ he'))
          have m1 := (facing_some k1).2
          have m2 := (facing_some k2).2
          have hnm : nm (eg T a) = nm e := by
            simp only [List.mem_cons, List.not_mem_nil, or_false] at ha
            rcases ha with rfl | rfl
            · rw [g1]
            · rw [g2, nm_swap]
          have hnm' : nm (eg T a) = nm e' := by
            simp only [List.mem_cons, List.not_mem_nil, or_false] at hb
            rcases hb with rfl | rfl
            · rw [m1]
            · rw [m2, nm_swap]
          exact hn.1 (hnm.symm.trans hnm' ▸ List.mem_map_of_mem he')
    exact key L (fun _ h => h) hon
  · rw [List.mem_filter, List.mem_range, decide_eq_true_eq, List.mem_map, List.mem_flatMap]
    constructor
    · rintro ⟨hc, e, he, hn⟩
      refine ⟨e, he, ?_⟩
      obtain ⟨f1, f2⟩ := hf e he
      obtain ⟨a1, a2⟩ := facing_some f1
      obtain ⟨b1, b2⟩ := facing_some f2
      rcases nm_eq.1 (show nm (e.1, e.2) = nm ((eg T c).1, (eg T c).2) from hn) with ⟨h1, h2⟩ | ⟨h1, h2⟩
      · have : c = f e := hs.once _ _ hc a1 (by rw [a2]; exact Prod.ext h1.symm h2.symm)
        rw [this]; exact List.mem_cons_self ..
      · have : c = f (e.2, e.1) := hs.once _ _ hc b1 (by rw [b2]; exact Prod.ext h2.symm h1.symm)
        rw [this]; exact List.mem_cons_of_mem _ (List.mem_cons_self ..)
    · rintro ⟨e, he, hc⟩
      obtain ⟨f1, f2⟩ := hf e he
      obtain ⟨a1, a2⟩ := facing_some f1
      obtain ⟨b1, b2⟩ := facing_some f2
      simp only [List.mem_cons, List.not_mem_nil, or_false] at hc
      rcases hc with rfl | rfl
      · exact ⟨a1, e, he, by rw [a2]⟩
      · exact ⟨b1, e, he, by rw [b2, nm_swap]⟩
end
end Go.Mesh

namespace Go.Mesh
variable {N : Int} {T : List T3} {C : List (Int × Int)}
open Classical in
noncomputable def numE (N : Int) (T : List T3) (C : List (Int × Int)) (H : List Nat) (c : Nat) : Int :=
  match H.findIdx? fun e => decide (Sect T C e c) with
  | some i => N + ((i : Nat) : Int)
  | none => vt T c
theorem newN_eq : newN N T C = numE N T C (exH T C N.toNat) := rfl
theorem numE_nil : numE N T C [] = vt T := rfl
open Classical in
theorem numE_snoc {H : List Nat} {h : Nat} (hH : ∀ e ∈ H, Head T C e) (hh : Head T C h) (hn : h ∉ H) (c : Nat) :
    (Sect T C h c → numE N T C (H ++ [h]) c = N + (H.length : Nat)) ∧ (¬ Sect T C h c → numE N T C (H ++ [h]) c = numE N T C H c) := by
  unfold numE
  rw [List.findIdx?_append]
  constructor
  · intro hs
    have h0 : H.findIdx? (fun e => decide (Sect T C e c)) = none := by
      rw [List.findIdx?_eq_none_iff]
      intro e he
      refine decide_eq_false fun h9 => hn ?_
      rw [← head_one (hH e he) hh (h9.trans hs.symm)]
      exact he
    rw [h0]
    simp [List.findIdx?_cons, hs]
  · intro hs
    have h1 : [h].findIdx? (fun e => decide (Sect T C e c)) = none := by simp [List.findIdx?_cons, hs]
    rw [h1]
    cases H.findIdx? (fun e => decide (Sect T C e c)) <;> rfl
theorem relab_congr {f g : Nat → Int} {n : Nat} (h : ∀ c, c < 3 * n → f c = g c) : relab f n = relab g n := by
  unfold relab
  refine List.map_congr_left fun i hi => ?_
  have hi := List.mem_range.1 hi
  rw [h _ (by omega), h _ (by omega), h _ (by omega)]
theorem relab_row {H : List Nat} {h n : Nat} {row : List Nat} (hH : ∀ e ∈ H, Head T C e) (hh : Head T C h) (hn : h ∉ H) (hrow : ∀ c, c ∈ row ↔ c < 3 * n ∧ Sect T C h c) :
    relab (fun c => if c ∈ row then N + (H.length : Nat) else numE N T C H c) n = relab (numE N T C (H ++ [h])) n := by
  refine relab_congr fun c hc => ?_
  obtain ⟨h1, h2⟩ := numE_snoc (N := N) hH hh hn c
  by_cases hs : Sect T C h c
  · rw [if_pos ((hrow c).2 ⟨hc, hs⟩), h1 hs]
  · rw [if_neg (fun h9 => hs ((hrow c).1 h9).2), h2 hs]
theorem relab_vt : relab (vt T) T.length = T := by
  refine List.ext_getElem (relab_len _ _) fun i h1 h2 => ?_
  have e9 : (relab (vt T) T.length)[i]'h1 = (vt T (3 * i), vt T (3 * i + 1), vt T (3 * i + 2)) := by simp [relab]
  rw [e9]
  have hv : ∀ k, k < 3 → vt T (3 * i + k) = vx T[i] k := fun k hk => by
    unfold vt
    have e : T.getD ((3 * i + k) / 3) (0, 0, 0) = T[i] := by
      rw [show (3 * i + k) / 3 = i by omega, List.getD_eq_getElem?_getD, List.getElem?_eq_getElem h2]; rfl
    rw [e, show (3 * i + k) % 3 = k by omega]
  have h0 := hv 0 (by omega)
  rw [Nat.add_zero] at h0
  rw [h0, hv 1 (by omega), hv 2 (by omega)]
  rfl
theorem exH_succ (v : Nat) : exH T C (v + 1) = exH T C v ++ exV T C (v : Int) := by
  unfold exH
  rw [List.range_succ, List.flatMap_append]
  simp
noncomputable def parH (T : List T3) (C : List (Int × Int)) (v j : Nat) : List Nat := exH T C v ++ (exV T C (v : Int)).take (j - 1)
theorem parH_zero (v : Nat) : parH T C v 0 = exH T C v := by unfold parH; simp
theorem parH_one (v : Nat) : parH T C v 1 = exH T C v := by unfold parH; simp
theorem parH_end (hs : Surf N T) {v : Nat} (hv : (v : Int) < N) {j : Nat} (hj : (hdV T C (v : Int)).length ≤ j) : parH T C v j = exH T C (v + 1) := by
  obtain ⟨b, hb, _⟩ := hdV_tail (C := C) hs (v := (v : Int)) ⟨by omega, hv⟩
  rw [hb, List.length_cons] at hj
  unfold parH
  rw [exH_succ, List.take_of_length_le (by omega)]
theorem parH_step (hs : Surf N T) {v : Nat} (hv : (v : Int) < N) {j h : Nat} (hj : 0 < j) (hh : (hdV T C (v : Int))[j]? = some h) :
    parH T C v (j + 1) = parH T C v j ++ [h] ∧ (∀ e ∈ parH T C v j, Head T C e) ∧ Head T C h ∧ h ∉ parH T C v j ∧ vt T h = (v : Int) := by
  obtain ⟨b, hb, _⟩ := hdV_tail (C := C) hs (v := (v : Int)) ⟨by omega, hv⟩
  obtain ⟨i, rfl⟩ : ∃ i, j = i + 1 := ⟨j - 1, by omega⟩
  rw [hb, List.getElem?_cons_succ] at hh
  obtain ⟨hlt, he⟩ := List.getElem?_eq_some_iff.1 hh
  have hm := mem_exV.1 (List.mem_of_getElem? hh)
  have e1 : parH T C v (i + 1 + 1) = parH T C v (i + 1) ++ [h] := by
    unfold parH
    rw [List.append_assoc]
    congr 1
    rw [show i + 1 + 1 - 1 = i + 1 by omega, show i + 1 - 1 = i by omega, ← he]
    exact (List.take_append_getElem hlt).symm
  refine ⟨e1, fun e h9 => ?_, hm.2.2.1, ?_, hm.2.1⟩
  · unfold parH at h9
    rcases List.mem_append.1 h9 with h8 | h8
    · obtain ⟨_, _, _, _, h7, _⟩ := mem_exH.1 h8; exact h7
    · exact (mem_exV.1 (List.mem_of_mem_take h8)).2.2.1
  · have hnd : (parH T C v (i + 1) ++ [h]).Nodup := by
      rw [← e1]
      refine (exH_nodup (T := T) (C := C) (v + 1)).sublist ?_
      rw [exH_succ]
      unfold parH
      exact List.Sublist.append_left (List.take_sublist _ _) _
    exact fun h9 => (List.nodup_append.1 hnd).2.2 h h9 h (List.mem_singleton.2 rfl) rfl
theorem exH_few (k : Nat) : (exH T C k).length ≤ 3 * T.length := by
  have h := nodup_len (exH_nodup (T := T) (C := C) k) (m := List.range (3 * T.length)) fun c hc => by
    obtain ⟨_, _, h1, _⟩ := mem_exH.1 hc
    exact List.mem_range.2 h1
  rwa [List.length_range] at h
theorem parH_few (v j : Nat) : (parH T C v j).length ≤ 3 * T.length := by
  have h := exH_few (T := T) (C := C) (v + 1)
  rw [exH_succ, List.length_append] at h
  unfold parH
  rw [List.length_append, List.length_take]
  omega
theorem exH_skip (hs : Surf N T) {L : List (Int × Int)} (g : Good T L) {v : Nat} (hv : (v : Int) < N) (h0 : endsC L (v : Int) = 0) : exH T (L.map nm) (v + 1) = exH T (L.map nm) v := by
  obtain ⟨b, hb, _⟩ := hdV_tail (C := L.map nm) hs (v := (v : Int)) ⟨by omega, hv⟩
  have h1 := hdV_len hs g (v := (v : Int)) ⟨by omega, hv⟩
  rw [h0, hb, List.length_cons] at h1
  have h2 : (exV T (L.map nm) (v : Int)).length = 0 := by split at h1 <;> omega
  rw [exH_succ, List.length_eq_zero_iff.1 h2, List.append_nil]
def outO (T : List T3) (n : Nat) (H : List Nat) : List Int := (List.range n).map (fun v : Nat => (v : Int)) ++ H.map (vt T)
theorem outO_snoc (T : List T3) (n : Nat) (H : List Nat) (h : Nat) : outO T n (H ++ [h]) = outO T n H ++ [vt T h] := by unfold outO; rw [List.map_append, ← List.append_assoc]; rfl
theorem outO_len (T : List T3) (n : Nat) (H : List Nat) : (outO T n H).length = n + H.length := by unfold outO; simp
theorem newO_eq : newO N T C = outO T N.toNat (exH T C N.toNat) := rfl
end Go.Mesh

namespace Go.Mesh
structure Undo (N : Int) (T : List T3) (M : Nat) (Y : List T3) (E : List (Int × Int)) (W : Int → Int) : Prop where
  len : Y.length = T.length
  was : ∀ c, c < 3 * T.length → W (vt Y c) = vt T c
  old : ∀ v, 0 ≤ v → v < N → W v = v
  le : N ≤ M
  used : ∀ k : Nat, k < M → ∃ c, c < 3 * T.length ∧ vt Y c = k
  pairs : ∀ e ∈ E, W e.1 = W e.2
  pos : ∀ e ∈ E, 0 ≤ e.1 ∧ 0 ≤ e.2
  conn : ∀ c d, c < 3 * T.length → aft T c = some d → labE E (vt Y c) = labE E (vt Y d)
section
variable {N : Int} {T : List T3} {M : Nat} {Y : List T3} {E : List (Int × Int)} {W : Int → Int}
theorem Undo.keep (u : Undo N T M Y E W) {v : Int} (h0 : 0 ≤ v) (h1 : v < N) : labE E v = v := by
  have h2 := labE_const W u.pairs v
  have h3 := (labE_lab E).le v
  have h4 := labE_nonneg u.pos v h0
  rw [u.old v h0 h1, u.old _ h4 (by omega)] at h2
  exact h2
theorem Undo.lab (u : Undo N T M Y E W) (hs : Surf N T) {c : Nat} (hc : c < 3 * T.length) : labE E (vt Y c) = vt T c := by
  have hr := hs.rng c hc
  obtain ⟨b, hb, hbv⟩ := u.used (vt T c).toNat (by have := u.le; omega)
  have hbv : vt Y b = vt T c := by omega
  have hbT : vt T b = vt T c := by rw [← u.was b hb, hbv, u.old _ hr.1 hr.2]
  have key := hs.closed_all hr.1 hr.2 (fun x => x < 3 * T.length ∧ labE E (vt Y x) = labE E (vt Y b)) hb hbT ⟨hb, rfl⟩
    (fun c d hc _ ⟨_, h⟩ ha => ⟨(hs.aft_iff.1 ha).1, by rw [← u.conn c d hc ha]; exact h⟩)
    (fun c d hc _ ⟨_, h⟩ hbf => by
      have ha := hs.bef_aft hc hbf
      have hd := (hs.bef_iff.1 hbf).1
      exact ⟨hd, by rw [u.conn d c hd ha]; exact h⟩) c hc rfl
  rw [key.2, hbv]
  exact u.keep hr.1 hr.2
theorem Undo.labW (u : Undo N T M Y E W) (hs : Surf N T) {k : Nat} (hk : k < M) : labE E (k : Int) = W k ∧ 0 ≤ W k ∧ W k < N := by
  obtain ⟨c, hc, he⟩ := u.used k hk
  rw [← he, u.lab hs hc, u.was c hc]
  exact ⟨rfl, hs.rng c hc⟩
theorem Undo.rnk (u : Undo N T M Y E W) : ∀ k : Nat, (k : Int) ≤ N → Go.Mesh.rnk (labE E) k = k
  | 0, _ => rfl
  | k + 1, h => by
    rw [rnk_succ, u.rnk k (by omega), if_pos (u.keep (by omega) (by omega))]
theorem Undo.num (u : Undo N T M Y E W) (hs : Surf N T) {k : Nat} (hk : k < M) : numL (labE E) (k : Int) = W k := by
  obtain ⟨h1, h2, h3⟩ := u.labW hs hk
  unfold numL
  rw [h1, u.rnk _ (by omega)]
  omega
theorem Undo.sewn (u : Undo N T M Y E W) (hs : Surf N T) : sewT (labE E) Y = T := by
  refine List.ext_getElem (by unfold sewT; rw [List.length_map, u.len]) fun i h1 h2 => ?_
  have hY : i < Y.length := by rw [u.len]; exact h2
  refine (show (sewT (labE E) Y)[i] = (numL (labE E) (Y[i]).1, numL (labE E) (Y[i]).2.1, numL (labE E) (Y[i]).2.2) from List.getElem_map ..).trans ?_
  have key : ∀ j, j < 3 → numL (labE E) (vx Y[i] j) = vx T[i] j := fun j hj => by
    have hc : 3 * i + j < 3 * T.length := by omega
    have e1 : vt Y (3 * i + j) = vx Y[i] j := by
      unfold vt
      rw [show (3 * i + j) / 3 = i by omega, show (3 * i + j) % 3 = j by omega, List.getD_eq_getElem?_getD, List.getElem?_eq_getElem hY]; rfl
    have e2 : vt T (3 * i + j) = vx T[i] j := by
      unfold vt
      rw [show (3 * i + j) / 3 = i by omega, show (3 * i + j) % 3 = j by omega, List.getD_eq_getElem?_getD, List.getElem?_eq_getElem h2]; rfl
    rw [← e1, ← e2]
    have h3 := u.lab hs hc
    unfold numL
    have hr := hs.rng _ hc
    rw [h3, u.rnk _ (by omega)]
    omega
  exact Prod.ext (key 0 (by omega)) (Prod.ext (key 1 (by omega)) (key 2 (by omega)))
theorem Undo.of (u : Undo N T M Y E W) (hs : Surf N T) : sewOf (labE E) M = (List.range M).map fun k : Nat => W (k : Int) := by
  unfold sewOf
  exact List.map_congr_left fun k hk => u.num hs (List.mem_range.1 hk)
end
def pairE (T X : List T3) (e : Int × Int) : P4 := (eg X ((facing T e).getD 0), eg X ((facing T (e.2, e.1)).getD 0))
section
variable {N : Int} {T : List T3} {C : List (Int × Int)} {X : List T3} {O : List Int} {Es : List (Int × Int)}
structure Told (T : List T3) (C : List (Int × Int)) (Es : List (Int × Int)) : Prop where
  two : ∀ e ∈ Es, (∃ c, facing T e = some c) ∧ ∃ d, facing T (e.2, e.1) = some d
  once : (Es.map nm).Nodup
  all : ∀ x, x ∈ C ↔ x ∈ Es.map nm
theorem mem_edP {l : List P4} {e : Int × Int} : e ∈ edP l ↔ ∃ p ∈ l, e = (p.1.1, p.2.2) ∨ e = (p.1.2, p.2.1) := by
  unfold edP
  rw [List.mem_flatMap]
  simp
theorem pair_at (hs : Surf N T) {e : Int × Int} {c d : Nat} (hc : facing T e = some c) (hd : facing T (e.2, e.1) = some d) : pairE T X e = (eg X c, eg X d) ∧ opp T c = some d ∧ c < 3 * T.length ∧ eg T c = e := by
  obtain ⟨h1, h2⟩ := facing_some hc
  obtain ⟨h3, h4⟩ := facing_some hd
  refine ⟨by unfold pairE; rw [hc, hd]; rfl, hs.opp_iff.2 ⟨h3, ?_, ?_⟩, h1, h2⟩
  · have a := congrArg Prod.fst h4
    have b := congrArg Prod.snd h2
    exact (show vt T (nx d) = e.2 from a).trans (show vt T (pv c) = e.2 from b).symm
  · have a := congrArg Prod.snd h4
    have b := congrArg Prod.fst h2
    exact (show vt T (pv d) = e.1 from a).trans (show vt T (nx c) = e.1 from b).symm
theorem undo (n : Numb N T C X O) (hs : Surf N T) (t : Told T C Es) : Undo N T O.length X (edP (Es.map (pairE T X))) fun k => O.getD k.toNat 0 where
  len := n.len
  was := fun c hc => by
    obtain ⟨k, h1, h2⟩ := n.was c hc
    show O.getD (vt X c).toNat 0 = _
    rw [h1, Int.toNat_natCast, List.getD_eq_getElem?_getD, h2]
    rfl
  old := fun v h0 h1 => by
    have := n.old v.toNat (by omega)
    show O.getD v.toNat 0 = v
    rw [List.getD_eq_getElem?_getD, this]
    show ((v.toNat : Nat) : Int) = v
    omega
  le := by
    have h0 := hs.n0
    rcases Int.lt_or_le 0 N with h | h
    · have := (List.getElem?_eq_some_iff.1 (n.old (N.toNat - 1) (by omega))).1
      omega
    · omega
  used := n.used
  pairs := fun e he => by
    obtain ⟨p, hp, h⟩ := mem_edP.1 he
    obtain ⟨x, hx, rfl⟩ := List.mem_map.1 hp
    obtain ⟨⟨c, hc⟩, d, hd⟩ := t.two x hx
    obtain ⟨h1, h2, h3, _⟩ := pair_at (X := X) hs hc hd
    rw [h1] at h
    obtain ⟨a1, a2, a3⟩ := hs.opp_iff.1 h2
    have key : ∀ f, f < 3 * T.length → O.getD (vt X f).toNat 0 = vt T f := fun f hf => by
      obtain ⟨k, h1, h2⟩ := n.was f hf
      rw [h1, Int.toNat_natCast, List.getD_eq_getElem?_getD, h2]; rfl
    rcases h with rfl | rfl
    · show O.getD (vt X (nx c)).toNat 0 = O.getD (vt X (pv d)).toNat 0
      rw [key _ (nx_lt h3), key _ (pv_lt a1), a3]
    · show O.getD (vt X (pv c)).toNat 0 = O.getD (vt X (nx d)).toNat 0
      rw [key _ (pv_lt h3), key _ (nx_lt a1), a2]
  pos := fun e he => by
    obtain ⟨p, hp, h⟩ := mem_edP.1 he
    obtain ⟨x, hx, rfl⟩ := List.mem_map.1 hp
    obtain ⟨⟨c, hc⟩, d, hd⟩ := t.two x hx
    obtain ⟨h1, h2, h3, _⟩ := pair_at (X := X) hs hc hd
    rw [h1] at h
    have hd3 := (hs.opp_iff.1 h2).1
    have key : ∀ f, f < 3 * T.length → 0 ≤ vt X f := fun f hf => (n.rngX f (by rw [n.len]; exact hf)).1
    rcases h with rfl | rfl
    · exact ⟨key _ (nx_lt h3), key _ (pv_lt hd3)⟩
    · exact ⟨key _ (pv_lt h3), key _ (nx_lt hd3)⟩
  conn := fun c d hc ha => by
    by_cases hcut : ctB T C d
    · have hd := (hs.aft_iff.1 ha).1
      have hv := hs.aft_iff.1 ha
      obtain ⟨e, he, hn⟩ := List.mem_map.1 ((t.all _).1 hcut)
      obtain ⟨⟨f, hf⟩, g, hg⟩ := t.two e he
      obtain ⟨h1, h2, h3, h4⟩ := pair_at (X := X) hs hf hg
      obtain ⟨a1, a2, a3⟩ := hs.opp_iff.1 h2
      have hmem : ∀ q, q = (vt X (nx f), vt X (pv g)) ∨ q = (vt X (pv f), vt X (nx g)) → labE (edP (Es.map (pairE T X))) q.1 = labE (edP (Es.map (pairE T X))) q.2 := fun q hq => labE_one q (mem_edP.2 ⟨_, List.mem_map_of_mem he, by rw [h1]; exact hq⟩)
      -- d's edge back, c's edge onward: the same, from both sides
      have ef : eg T f = e := h4
      have eg' : eg T g = (e.2, e.1) := (facing_some hg).2
      have e1 : eg T (pv d) = (vt T d, vt T (nx d)) := by unfold eg; rw [nx_pv, pv_pv]
      have e2 : eg T (nx c) = (vt T (nx d), vt T d) := by unfold eg; rw [nx_nx, pv_nx, ← hv.2.2, ← hv.2.1]
      rcases nm_eq.1 (show nm (e.1, e.2) = nm (vt T d, vt T (nx d)) from hn) with ⟨k1, k2⟩ | ⟨k1, k2⟩
      · have q1 : f = pv d := hs.once _ _ h3 (pv_lt hd) (by rw [ef, e1]; exact Prod.ext k1 k2)
        have q2 : g = nx c := hs.once _ _ a1 (nx_lt hc) (by rw [eg', e2]; exact Prod.ext k2 k1)
        have := hmem _ (.inl rfl)
        rw [q1, q2, nx_pv, pv_nx] at this
        exact this.symm
      · have q1 : f = nx c := hs.once _ _ h3 (nx_lt hc) (by rw [ef, e2]; exact Prod.ext k1 k2)
        have q2 : g = pv d := hs.once _ _ a1 (pv_lt hd) (by rw [eg', e1]; exact Prod.ext k2 k1)
        have := hmem _ (.inr rfl)
        rw [q1, q2, pv_nx, nx_pv] at this
        exact this
    · rw [(n.same c d hc (hs.aft_iff.1 ha).1).2 (Sect.step hc ha hcut)]
end
end Go.Mesh

namespace Go.Mesh
section
variable {N : Int} {T : List T3} {C : List (Int × Int)} {X : List T3} {O : List Int} {Es : List (Int × Int)}
def faceE (T : List T3) (e : Int × Int) : Nat := (facing T e).getD 0
theorem Told.face (t : Told T C Es) {e : Int × Int} (he : e ∈ Es) : facing T e = some (faceE T e) ∧ facing T (e.2, e.1) = some (faceE T (e.2, e.1)) := by
  obtain ⟨⟨c, hc⟩, d, hd⟩ := t.two e he
  unfold faceE
  rw [hc, hd]
  exact ⟨rfl, rfl⟩
def meetE (T Y : List T3) (e : Int × Int) : Bool := decide ((pairE T Y e).1.1 = (pairE T Y e).2.2 ∧ (pairE T Y e).1.2 = (pairE T Y e).2.1)
def halfL (T X : List T3) (Es : List (Int × Int)) (k : Nat) : Int → Int := labE (edP ((Es.take k).map (pairE T X)))
def restE (T Y : List T3) (Es : List (Int × Int)) (k : Nat) : List (Int × Int) := (Es.drop k).filter fun e => !meetE T Y e
theorem edP_take {l : List P4} {k : Nat} {e : Int × Int} (h : e ∈ edP (l.take k)) : e ∈ edP l := by
  obtain ⟨p, hp, h⟩ := mem_edP.1 h
  exact mem_edP.2 ⟨p, List.mem_of_mem_take hp, h⟩
theorem half_edP (k : Nat) : ∀ e ∈ edP ((Es.take k).map (pairE T X)), e ∈ edP (Es.map (pairE T X)) := fun e he => by
  rw [List.map_take] at he
  exact edP_take he
theorem vt_sewM (L : Int → Int) (Y : List T3) {c : Nat} (hc : c < 3 * Y.length) : vt (sewT L Y) c = numL L (vt Y c) := by
  unfold vt sewT
  rw [List.getD_eq_getElem?_getD, List.getD_eq_getElem?_getD, List.getElem?_map, List.getElem?_eq_getElem (by omega)]
  show vx (numL L (Y[c / 3]).1, numL L (Y[c / 3]).2.1, numL L (Y[c / 3]).2.2) (c % 3) = numL L (vx (Y[c / 3]) (c % 3))
  have : c % 3 = 0 ∨ c % 3 = 1 ∨ c % 3 = 2 := by omega
  rcases this with h | h | h <;> rw [h] <;> rfl
structure Half (N : Int) (T : List T3) (C : List (Int × Int)) (X : List T3) (O : List Int) (Es : List (Int × Int)) (k : Nat) : Prop where
  surf : Surf N T
  numb : Numb N T C X O
  told : Told T C Es
  sewn : Surf (rnk (halfL T X Es k) O.length : Nat) (sewT (halfL T X Es k) X)
variable {k : Nat}
theorem Half.was (h : Half N T C X O Es k) {c d : Nat} (hc : c < 3 * T.length) (hd : d < 3 * T.length) (he : halfL T X Es k (vt X c) = halfL T X Es k (vt X d)) : vt T c = vt T d := by
  have u := undo h.numb h.surf h.told
  have hp : ∀ e ∈ edP ((Es.take k).map (pairE T X)), O.getD e.1.toNat 0 = O.getD e.2.toNat 0 := fun e he => u.pairs e (half_edP k e he)
  have h1 := labE_const (E := edP ((Es.take k).map (pairE T X))) (fun x => O.getD x.toNat 0) hp (vt X c)
  have h2 := labE_const (E := edP ((Es.take k).map (pairE T X))) (fun x => O.getD x.toNat 0) hp (vt X d)
  have e1 : O.getD (vt X c).toNat 0 = vt T c := u.was c hc
  have e2 : O.getD (vt X d).toNat 0 = vt T d := u.was d hd
  rw [e1] at h1
  rw [e2] at h2
  rw [← h1, ← h2]
  show O.getD (halfL T X Es k (vt X c)).toNat 0 = O.getD (halfL T X Es k (vt X d)).toNat 0
  rw [he]
theorem Half.pos (h : Half N T C X O Es k) : ∀ x, 0 ≤ x → 0 ≤ halfL T X Es k x := by
  have u := undo h.numb h.surf h.told
  exact labE_nonneg fun e he => u.pos e (half_edP k e he)
theorem Half.num (h : Half N T C X O Es k) {c d : Nat} (hc : c < 3 * T.length) (hd : d < 3 * T.length) : vt (sewT (halfL T X Es k) X) c = vt (sewT (halfL T X Es k) X) d ↔ halfL T X Es k (vt X c) = halfL T X Es k (vt X d) := by
  have hl := h.numb.len
  rw [vt_sewM _ _ (by omega), vt_sewM _ _ (by omega)]
  exact numL_eq (labE_lab _) h.pos (h.numb.rngX c (by omega)).1 (h.numb.rngX d (by omega)).1
theorem Half.wasY (h : Half N T C X O Es k) {c d : Nat} (hc : c < 3 * T.length) (hd : d < 3 * T.length) (he : vt (sewT (halfL T X Es k) X) c = vt (sewT (halfL T X Es k) X) d) : vt T c = vt T d := h.was hc hd ((h.num hc hd).1 he)
theorem Half.keep (h : Half N T C X O Es k) {v : Int} (h0 : 0 ≤ v) (h1 : v < N) : halfL T X Es k v = v := by
  have u := undo h.numb h.surf h.told
  have h2 := labE_const (E := edP ((Es.take k).map (pairE T X))) (fun x => O.getD x.toNat 0) (fun e he => u.pairs e (half_edP k e he)) v
  have h3 : halfL T X Es k v ≤ v := (labE_lab _).le v
  have h4 := h.pos v h0
  have h5 : O.getD (halfL T X Es k v).toNat 0 = O.getD v.toNat 0 := h2
  have e1 : O.getD v.toNat 0 = v := u.old v h0 h1
  have e2 : O.getD (halfL T X Es k v).toNat 0 = halfL T X Es k v := u.old _ h4 (by omega)
  omega
theorem Half.rnk (h : Half N T C X O Es k) : ∀ j : Nat, (j : Int) ≤ N → Go.Mesh.rnk (halfL T X Es k) j = j
  | 0, _ => rfl
  | j + 1, hj => by rw [rnk_succ, h.rnk j (by omega), if_pos (h.keep (by omega) (by omega))]
def wasE (T Y : List T3) (x : Int) : Int := match cornerOf Y x with
  | some c => vt T c
  | none => x
theorem Half.wasE (h : Half N T C X O Es k) {c : Nat} (hc : c < 3 * T.length) : Go.Mesh.wasE T (sewT (halfL T X Es k) X) (vt (sewT (halfL T X Es k) X) c) = vt T c := by
  have hl : (sewT (halfL T X Es k) X).length = T.length := by unfold sewT; rw [List.length_map, h.numb.len]
  unfold Go.Mesh.wasE cornerOf
  obtain ⟨d, hd⟩ := leastFrom_isSome (p := fun d => vt (sewT (halfL T X Es k) X) d == vt (sewT (halfL T X Es k) X) c) (n := 3 * (sewT (halfL T X Es k) X).length) (k := 0) (c := c) (by omega) (by omega) (by simp)
  rw [hd]
  obtain ⟨_, h2, h3, _⟩ := (leastFrom_some _ _ _ _).1 hd
  exact h.wasY (by omega) hc (by simpa using h3)
theorem pairE_face {e : Int × Int} (Y : List T3) : pairE T Y e = (eg Y (faceE T e), eg Y (faceE T (e.2, e.1))) := rfl
theorem Half.undo (h : Half N T C X O Es k) : Undo N T (Go.Mesh.rnk (halfL T X Es k) O.length) (sewT (halfL T X Es k) X) (edP ((restE T (sewT (halfL T X Es k) X) Es k).map (pairE T (sewT (halfL T X Es k) X)))) (Go.Mesh.wasE T (sewT (halfL T X Es k) X)) := by
  have hl : (sewT (halfL T X Es k) X).length = T.length := by unfold sewT; rw [List.length_map, h.numb.len]
  have u := Go.Mesh.undo h.numb h.surf h.told
  have hsub : ∀ e ∈ restE T (sewT (halfL T X Es k) X) Es k, e ∈ Es := fun e he => List.mem_of_mem_drop (List.mem_filter.1 he).1
  have hcor : ∀ q ∈ edP ((restE T (sewT (halfL T X Es k) X) Es k).map (pairE T (sewT (halfL T X Es k) X))), ∃ a b, a < 3 * T.length ∧ b < 3 * T.length ∧ q = (vt (sewT (halfL T X Es k) X) a, vt (sewT (halfL T X Es k) X) b) ∧ vt T a = vt T b := fun q hq => by
    obtain ⟨p, hp, hq⟩ := mem_edP.1 hq
    obtain ⟨e, he, rfl⟩ := List.mem_map.1 hp
    obtain ⟨f1, f2⟩ := h.told.face (hsub e he)
    obtain ⟨_, h2, h3, _⟩ := pair_at (X := X) h.surf f1 f2
    obtain ⟨a1, a2, a3⟩ := h.surf.opp_iff.1 h2
    rw [pairE_face] at hq
    rcases hq with rfl | rfl
    · exact ⟨_, _, nx_lt h3, pv_lt a1, rfl, a3.symm⟩
    · exact ⟨_, _, pv_lt h3, nx_lt a1, rfl, a2.symm⟩
  constructor
  · exact hl
  · exact fun c hc => h.wasE hc
  · intro v h0 h1
    obtain ⟨c, hc, he⟩ := u.used v.toNat (by have := u.le; omega)
    have e1 : vt (sewT (halfL T X Es k) X) c = v := by
      rw [vt_sewM _ _ (by rw [h.numb.len]; exact hc), he]
      unfold numL
      rw [show ((v.toNat : Nat) : Int) = v by omega, h.keep h0 h1, h.rnk _ (by omega)]
      omega
    have := h.wasE hc
    rw [e1] at this
    rw [this, ← u.was c hc, he]
    show O.getD ((v.toNat : Nat) : Int).toNat 0 = v
    rw [Int.toNat_natCast]
    exact u.old v h0 h1
  · have h1 := rnk_mono (halfL T X Es k) (j := N.toNat) (k := O.length) (by have := u.le; omega)
    have h0 := h.surf.n0
    rw [h.rnk N.toNat (by omega)] at h1
    omega
  · intro j hj
    obtain ⟨c, hc, he⟩ := h.sewn.used (j : Int) (by omega) (by omega)
    exact ⟨c, by rw [hl] at hc; exact hc, he⟩
  · intro q hq
    obtain ⟨a, b, ha, hb, rfl, hab⟩ := hcor q hq
    show Go.Mesh.wasE T _ _ = Go.Mesh.wasE T _ _
    rw [h.wasE ha, h.wasE hb, hab]
  · intro q hq
    obtain ⟨a, b, ha, hb, rfl, _⟩ := hcor q hq
    exact ⟨(h.sewn.rng a (by rw [hl]; exact ha)).1, (h.sewn.rng b (by rw [hl]; exact hb)).1⟩
  · intro c d hc ha
    have hd := (h.surf.aft_iff.1 ha).1
    by_cases hcut : ctB T C d
    · obtain ⟨e, he, hn⟩ := List.mem_map.1 ((h.told.all _).1 hcut)
      obtain ⟨f1, f2⟩ := h.told.face he
      obtain ⟨h1, h2, h3, h4⟩ := pair_at (X := X) h.surf f1 f2
      obtain ⟨a1, a2, a3⟩ := h.surf.opp_iff.1 h2
      have hv := h.surf.aft_iff.1 ha
      have ef : eg T (faceE T e) = e := h4
      have eg' : eg T (faceE T (e.2, e.1)) = (e.2, e.1) := (facing_some f2).2
      have e1 : eg T (pv d) = (vt T d, vt T (nx d)) := by unfold eg; rw [nx_pv, pv_pv]
      have e2 : eg T (nx c) = (vt T (nx d), vt T d) := by unfold eg; rw [nx_nx, pv_nx, ← hv.2.2, ← hv.2.1]
      -- the pair of the edge's sides at their vertex
      have hpr : ∃ q, (q = (nx (faceE T e), pv (faceE T (e.2, e.1))) ∨ q = (pv (faceE T e), nx (faceE T (e.2, e.1)))) ∧ (q = (d, c) ∨ q = (c, d)) := by
        rcases nm_eq.1 (show nm (e.1, e.2) = nm (vt T d, vt T (nx d)) from hn) with ⟨k1, k2⟩ | ⟨k1, k2⟩
        · have q1 : faceE T e = pv d := h.surf.once _ _ h3 (pv_lt hd) (by rw [ef, e1]; exact Prod.ext k1 k2)
          have q2 : faceE T (e.2, e.1) = nx c := h.surf.once _ _ a1 (nx_lt hc) (by rw [eg', e2]; exact Prod.ext k2 k1)
          exact ⟨_, .inl rfl, .inl (by rw [q1, q2, nx_pv, pv_nx])⟩
        · have q1 : faceE T e = nx c := h.surf.once _ _ h3 (nx_lt hc) (by rw [ef, e2]; exact Prod.ext k1 k2)
          have q2 : faceE T (e.2, e.1) = pv d := h.surf.once _ _ a1 (pv_lt hd) (by rw [eg', e1]; exact Prod.ext k2 k1)
          exact ⟨_, .inr rfl, .inr (by rw [q1, q2, pv_nx, nx_pv])⟩
      obtain ⟨q, hq1, hq2⟩ := hpr
      have hsym : ∀ f : Nat → Int, f q.1 = f q.2 → f c = f d := fun f hf => by
        rcases hq2 with rfl | rfl
        · exact hf.symm
        · exact hf
      rw [← List.take_append_drop k Es] at he
      rcases List.mem_append.1 he with h9 | h9
      · -- sewn in the first go
        have hm : halfL T X Es k (vt X q.1) = halfL T X Es k (vt X q.2) := labE_one (vt X q.1, vt X q.2) (mem_edP.2 ⟨_, List.mem_map_of_mem h9, by
          rw [pairE_face]
          rcases hq1 with rfl | rfl
          · exact .inl rfl
          · exact .inr rfl⟩)
        have := (h.num hc hd).2 (hsym (fun x => halfL T X Es k (vt X x)) hm)
        rw [this]
      · cases hme : meetE T (sewT (halfL T X Es k) X) e with
        | true =>
          have h8 := of_decide_eq_true hme
          rw [pairE_face] at h8
          have h7 : vt (sewT (halfL T X Es k) X) q.1 = vt (sewT (halfL T X Es k) X) q.2 := by
            rcases hq1 with rfl | rfl
            · exact h8.1
            · exact h8.2
          rw [hsym (fun x => vt (sewT (halfL T X Es k) X) x) h7]
        | false =>
          have hr : e ∈ restE T (sewT (halfL T X Es k) X) Es k := List.mem_filter.2 ⟨h9, by rw [hme]; rfl⟩
          exact hsym (fun x => labE _ (vt (sewT (halfL T X Es k) X) x)) (labE_one (vt (sewT (halfL T X Es k) X) q.1, vt (sewT (halfL T X Es k) X) q.2) (mem_edP.2 ⟨_, List.mem_map_of_mem hr, by
            rw [pairE_face]
            rcases hq1 with rfl | rfl
            · exact .inl rfl
            · exact .inr rfl⟩))
    · have := (h.numb.same c d hc hd).2 (Sect.step hc ha hcut)
      have e9 : vt (sewT (halfL T X Es k) X) c = vt (sewT (halfL T X Es k) X) d := (h.num hc hd).2 (by rw [this])
      rw [e9]
theorem Half.bord (h : Half N T C X O Es k) {e : Int × Int} (he : e ∈ restE T (sewT (halfL T X Es k) X) Es k) : opp (sewT (halfL T X Es k) X) (faceE T e) = none ∧ opp (sewT (halfL T X Es k) X) (faceE T (e.2, e.1)) = none := by
  have hl : (sewT (halfL T X Es k) X).length = T.length := by unfold sewT; rw [List.length_map, h.numb.len]
  obtain ⟨h1, h2⟩ := List.mem_filter.1 he
  obtain ⟨f1, f2⟩ := h.told.face (List.mem_of_mem_drop h1)
  obtain ⟨_, h3, h4, _⟩ := pair_at (X := X) h.surf f1 f2
  have h5 := (h.surf.opp_iff.1 h3).1
  have hno : ¬ (vt (sewT (halfL T X Es k) X) (nx (faceE T e)) = vt (sewT (halfL T X Es k) X) (pv (faceE T (e.2, e.1))) ∧ vt (sewT (halfL T X Es k) X) (pv (faceE T e)) = vt (sewT (halfL T X Es k) X) (nx (faceE T (e.2, e.1)))) := by
    have h6 : meetE T (sewT (halfL T X Es k) X) e = false := by simpa using h2
    exact of_decide_eq_false h6
  have key : ∀ c d d', c < 3 * T.length → opp T c = some d → opp (sewT (halfL T X Es k) X) c = some d' → d' = d ∧ vt (sewT (halfL T X Es k) X) (nx d) = vt (sewT (halfL T X Es k) X) (pv c) ∧ vt (sewT (halfL T X Es k) X) (pv d) = vt (sewT (halfL T X Es k) X) (nx c) := fun c d d' hc ho hX => by
    obtain ⟨g1, g2, g3⟩ := h.sewn.opp_iff.1 hX
    rw [hl] at g1
    have : opp T c = some d' := h.surf.opp_iff.2 ⟨g1, h.wasY (nx_lt g1) (pv_lt hc) g2, h.wasY (pv_lt g1) (nx_lt hc) g3⟩
    rw [ho] at this
    have := Option.some.inj this
    subst this
    exact ⟨rfl, g2, g3⟩
  constructor
  · cases hX : opp (sewT (halfL T X Es k) X) (faceE T e) with
    | none => rfl
    | some d' =>
      obtain ⟨_, g2, g3⟩ := key _ _ _ h4 h3 hX
      exact absurd ⟨g3.symm, g2.symm⟩ hno
  · cases hX : opp (sewT (halfL T X Es k) X) (faceE T (e.2, e.1)) with
    | none => rfl
    | some d' =>
      obtain ⟨_, g2, g3⟩ := key _ _ _ h5 (h.surf.opp_symm h4 h3) hX
      exact absurd ⟨g2, g3⟩ hno
end
end Go.Mesh

namespace Go.Mesh
section
variable {N : Int} {T : List T3} {C D : List (Int × Int)}
theorem ctB_same (h : ∀ x, x ∈ C ↔ x ∈ D) : ctB T C = ctB T D := funext fun _ => propext (h _)
theorem shut_same (h : ∀ x, x ∈ C ↔ x ∈ D) : Shut T C = Shut T D := by unfold Shut; rw [ctB_same h]
theorem sect_same (h : ∀ x, x ∈ C ↔ x ∈ D) : Sect T C = Sect T D := by unfold Sect; rw [shut_same h]
theorem head_same (h : ∀ x, x ∈ C ↔ x ∈ D) : Head T C = Head T D := by unfold Head; rw [sect_same h]
theorem extra_same (h : ∀ x, x ∈ C ↔ x ∈ D) : Extra T C = Extra T D := by unfold Extra; rw [head_same h]
theorem exV_same (h : ∀ x, x ∈ C ↔ x ∈ D) : exV T C = exV T D := by unfold exV; rw [extra_same h]
theorem exH_same (h : ∀ x, x ∈ C ↔ x ∈ D) : exH T C = exH T D := by unfold exH; rw [exV_same h]
theorem newO_same (h : ∀ x, x ∈ C ↔ x ∈ D) : newO N T C = newO N T D := by unfold newO; rw [exH_same h]
def moreV (N : Int) (T : List T3) (L : List (Int × Int)) (v : Int) : Nat := if innerAt T N v = false then endsC L v else endsC L v - 1
theorem exH_more (hs : Surf N T) {L : List (Int × Int)} (g : Good T L) {k : Nat} (hk : (k : Int) < N) : (exH T (L.map nm) (k + 1)).length = (exH T (L.map nm) k).length + moreV N T L (k : Int) := by
  obtain ⟨b, h1, _⟩ := hdV_tail (C := L.map nm) hs (v := (k : Int)) ⟨by omega, hk⟩
  have h2 := hdV_len hs g (v := (k : Int)) ⟨by omega, hk⟩
  rw [h1, List.length_cons] at h2
  rw [exH_succ, List.length_append]
  unfold moreV
  split at h2 <;> rename_i h3
  · rw [if_pos h3]; omega
  · rw [if_neg h3]; omega
end
theorem countP_same {α : Type} {p q : α → Bool} {L : List α} (h : ∀ x ∈ L, p x = q x) : L.countP p = L.countP q := by
  rw [List.countP_eq_length_filter, List.countP_eq_length_filter, List.filter_congr h]
theorem range_nx (n : Nat) : ((List.range (3 * n)).map nx).Perm (List.range (3 * n)) := by
  refine (List.perm_ext_iff_of_nodup (nodup_map_inj List.nodup_range fun a _ b _ h => nx_inj h) List.nodup_range).2 fun x => ?_
  rw [List.mem_map, List.mem_range]
  constructor
  · rintro ⟨a, ha, rfl⟩
    exact nx_lt (List.mem_range.1 ha)
  · intro h
    exact ⟨pv x, List.mem_range.2 (pv_lt h), nx_pv x⟩
theorem countP_nx (p : Nat → Bool) (n : Nat) : (List.range (3 * n)).countP (fun c => p (nx c)) = (List.range (3 * n)).countP p := by
  rw [← (range_nx n).countP_eq p, List.countP_map]; rfl
section
variable {N : Int} {T : List T3}
def lowV (T : List T3) (k : Int) : Nat := (List.range (3 * T.length)).countP (fun c => decide (vt T c < k)) + (List.range (3 * T.length)).countP fun c => decide (vt T c < k ∧ aft T c = none)
def bordC (T : List T3) : Nat := (List.range (3 * T.length)).countP fun c => decide (opp T c = none)
theorem lowV_all (hs : Surf N T) : lowV T N = 3 * T.length + bordC T := by
  unfold lowV
  have e1 : (List.range (3 * T.length)).countP (fun c => decide (vt T c < N)) = 3 * T.length := by
    rw [List.countP_eq_length.2 (fun c hc => by rw [decide_eq_true_eq]; exact (hs.rng c (List.mem_range.1 hc)).2), List.length_range]
  have e2 : (List.range (3 * T.length)).countP (fun c => decide (vt T c < N ∧ aft T c = none)) = bordC T := by
    unfold bordC
    rw [← countP_nx (fun c => decide (opp T c = none))]
    refine countP_same fun c hc => ?_
    have hr := (hs.rng c (List.mem_range.1 hc)).2
    refine decide_eq_decide.2 ⟨fun h => ?_, fun h => ⟨hr, ?_⟩⟩
    · have := h.2
      unfold aft at this
      rwa [Option.map_eq_none_iff] at this
    · unfold aft
      rw [h]; rfl
  rw [e1, e2]
theorem countP_or_in {α : Type} {p q r : α → Bool} : ∀ {L : List α}, (∀ e ∈ L, r e = (p e || q e)) → (∀ e ∈ L, ¬ (p e = true ∧ q e = true)) → L.countP r = L.countP p + L.countP q
  | [], _, _ => rfl
  | e :: L, hp, hd => by
    have ih := countP_or_in (p := p) (q := q) (r := r) (L := L) (fun x hx => hp x (List.mem_cons_of_mem _ hx)) (fun x hx => hd x (List.mem_cons_of_mem _ hx))
    have h1 := hp e (List.mem_cons_self ..)
    have h2 := hd e (List.mem_cons_self ..)
    rw [List.countP_cons, List.countP_cons, List.countP_cons, ih, h1]
    cases hpe : p e <;> cases hqe : q e <;> simp_all <;> omega
theorem good_two {L : List (Int × Int)} (g : Good T L) {c : Nat} (h : nm (eg T c) ∈ L.map nm) : ∃ d, opp T c = some d := by
  obtain ⟨e, he, h1⟩ := List.mem_map.1 h
  obtain ⟨⟨a, ha⟩, b, hb⟩ := g.two e he
  rcases nm_eq.1 (show nm (e.1, e.2) = nm (vt T (nx c), vt T (pv c)) from h1) with ⟨e1, e2⟩ | ⟨e1, e2⟩
  · exact ⟨b, by unfold opp; rw [← e1, ← e2]; exact hb⟩
  · exact ⟨a, by unfold opp; rw [← e1, ← e2]; exact ha⟩
theorem bordC_cut {X : List T3} {O : List Int} {L : List (Int × Int)} (n : Numb N T (L.map nm) X O) (hs : Surf N T) (hp : Parts T (L.map nm)) (g : Good T L) : bordC X = bordC T + 2 * L.length := by
  rw [← cut_corners hs g]
  unfold bordC
  rw [n.len, ← List.countP_eq_length_filter]
  refine countP_or_in (fun c hc => ?_) fun c _ h => ?_
  · have h1 := n.bord hs hp (List.mem_range.1 hc)
    rw [← Bool.decide_or]
    exact decide_eq_decide.2 h1
  · obtain ⟨d, hd⟩ := good_two g (of_decide_eq_true h.2)
    rw [of_decide_eq_true h.1] at hd
    cases hd
theorem lowV_cut {X : List T3} {O : List Int} {L : List (Int × Int)} (n : Numb N T (L.map nm) X O) (hs : Surf N T) (hp : Parts T (L.map nm)) (g : Good T L) (hX : Surf (O.length : Nat) X) : lowV X (O.length : Nat) = lowV T N + 2 * L.length := by
  rw [lowV_all hs, lowV_all hX, n.len, bordC_cut n hs hp g]
  omega
end
end Go.Mesh
