/- Plain: the edges of a loop, as edges to cut along; no program in sight. Plain: a vertex's star, cut along its link; no program in sight. -/
import Derived.Test.YtpbdcppaiafbgaaGreatHP
import Derived.Test.YtpbdcppaiafbgaaGreatDX
namespace Go.Mesh
/-- The edges along a loop. -/
def loopE (lo : List Int) : List (Int × Int) := (List.range lo.length).map fun i => (lo.getD i 0, lo.getD ((i + 1) % lo.length) 0)
theorem loopE_len (lo : List Int) : (loopE lo).length = lo.length := by unfold loopE; simp
theorem loopE_at {lo : List Int} {i : Nat} (hi : i < lo.length) : (loopE lo)[i]? = some (lo.getD i 0, lo.getD ((i + 1) % lo.length) 0) := by
  unfold loopE
  rw [List.getElem?_map, List.getElem?_range hi]; rfl
theorem mem_loopE {lo : List Int} {e : Int × Int} : e ∈ loopE lo ↔ ∃ i, i < lo.length ∧ e = (lo.getD i 0, lo.getD ((i + 1) % lo.length) 0) := by
  unfold loopE
  rw [List.mem_map]
  constructor
  · rintro ⟨i, hi, rfl⟩; exact ⟨i, List.mem_range.1 hi, rfl⟩
  · rintro ⟨i, hi, rfl⟩; exact ⟨i, List.mem_range.2 hi, rfl⟩
theorem getD_inj {lo : List Int} (hn : lo.Nodup) {i j : Nat} (hi : i < lo.length) (hj : j < lo.length) (h : lo.getD i 0 = lo.getD j 0) : i = j := by
  rw [List.getD_eq_getElem?_getD, List.getD_eq_getElem?_getD, List.getElem?_eq_getElem hi, List.getElem?_eq_getElem hj] at h
  exact (List.getElem_inj (h₀ := hi) (h₁ := hj) hn).1 h
theorem getD_mem {lo : List Int} {i : Nat} (hi : i < lo.length) : lo.getD i 0 ∈ lo := by
  rw [List.getD_eq_getElem?_getD, List.getElem?_eq_getElem hi]
  exact List.getElem_mem hi
theorem mem_getD {lo : List Int} {x : Int} (h : x ∈ lo) : ∃ i, i < lo.length ∧ lo.getD i 0 = x := by
  obtain ⟨i, hi, rfl⟩ := List.getElem_of_mem h
  exact ⟨i, hi, by rw [List.getD_eq_getElem?_getD, List.getElem?_eq_getElem hi]; rfl⟩
theorem succ_mod {n i : Nat} (hi : i < n) : (i + 1 < n ∧ (i + 1) % n = i + 1) ∨ (i + 1 = n ∧ (i + 1) % n = 0) := by
  rcases Nat.lt_or_ge (i + 1) n with h | h
  · exact .inl ⟨h, Nat.mod_eq_of_lt h⟩
  · exact .inr ⟨by omega, by rw [show i + 1 = n by omega, Nat.mod_self]⟩
/-- No edge twice. -/
theorem loopE_once {lo : List Int} (hn : lo.Nodup) (h3 : 3 ≤ lo.length) : ((loopE lo).map nm).Nodup := by
  unfold loopE
  rw [List.map_map]
  refine nodup_map_inj List.nodup_range fun i hi j hj he => ?_
  have hi := List.mem_range.1 hi
  have hj := List.mem_range.1 hj
  have h1 := Nat.mod_lt (i + 1) (show 0 < lo.length by omega)
  have h2 := Nat.mod_lt (j + 1) (show 0 < lo.length by omega)
  rcases nm_eq.1 (show nm (lo.getD i 0, lo.getD ((i + 1) % lo.length) 0) = nm (lo.getD j 0, lo.getD ((j + 1) % lo.length) 0) from he) with ⟨e1, _⟩ | ⟨e1, e2⟩
  · exact getD_inj hn hi hj e1
  · have k1 := getD_inj hn hi h2 e1
    have k2 := getD_inj hn h1 hj e2
    rcases succ_mod hi with ⟨_, m1⟩ | ⟨_, m1⟩ <;> rcases succ_mod hj with ⟨_, m2⟩ | ⟨_, m2⟩ <;> omega
/-- Each vertex of the loop has two of its edges. -/
theorem loopE_ends {lo : List Int} (h3 : 3 ≤ lo.length) {x : Int} (hx : x ∈ lo) : 1 < endsC (loopE lo) x := by
  obtain ⟨i, hi, rfl⟩ := mem_getD hx
  unfold endsC loopE
  rw [List.countP_map, List.countP_eq_length_filter]
  -- two places
  obtain ⟨j, hj, hij, hji⟩ : ∃ j, j < lo.length ∧ j ≠ i ∧ (j + 1) % lo.length = i := by
    rcases Nat.eq_zero_or_pos i with h0 | h0
    · exact ⟨lo.length - 1, by omega, by omega, by rw [show lo.length - 1 + 1 = lo.length by omega, Nat.mod_self, h0]⟩
    · exact ⟨i - 1, by omega, by omega, by rw [show i - 1 + 1 = i by omega, Nat.mod_eq_of_lt hi]⟩
  have hsub : ∀ y ∈ [i, j], y ∈ (List.range lo.length).filter ((fun e => e.1 == lo.getD i 0 || e.2 == lo.getD i 0) ∘ fun i => (lo.getD i 0, lo.getD ((i + 1) % lo.length) 0)) := fun y hy => by
    rw [List.mem_filter, List.mem_range]
    simp only [List.mem_cons, List.not_mem_nil, or_false] at hy
    rcases hy with rfl | rfl
    · exact ⟨hi, by simp⟩
    · exact ⟨hj, by simp [hji]⟩
  have hnd : [i, j].Nodup := by simp; exact fun h => hij h.symm
  have := hnd.length_le_of_subset (fun y hy => hsub y hy)
  exact this
theorem loopE_no_ends {lo : List Int} {x : Int} (hx : x ∉ lo) (h3 : 0 < lo.length) : ∀ e ∈ loopE lo, e.1 ≠ x ∧ e.2 ≠ x := fun e he => by
  obtain ⟨i, hi, rfl⟩ := mem_loopE.1 he
  exact ⟨fun h => hx (h ▸ getD_mem hi), fun h => hx (h ▸ getD_mem (Nat.mod_lt _ h3))⟩
section
variable {N : Int} {T : List T3} {C : List (Int × Int)}
/-- No edge of a loop would stay as it is. -/
theorem loopE_idle {lo : List Int} (h3 : 3 ≤ lo.length) : ∀ e ∈ loopE lo, idleE N T (loopE lo) e = false := fun e he => by
  obtain ⟨i, hi, rfl⟩ := mem_loopE.1 he
  have := loopE_ends h3 (getD_mem hi)
  unfold idleE
  have hf : decide (endsC (loopE lo) (lo.getD i 0) ≤ 1) = false := decide_eq_false (by omega)
  show (decide (endsC (loopE lo) (lo.getD i 0) ≤ 1) && _ && _) = false
  rw [hf]; rfl
/-! ## The link of an inner vertex -/
theorem inner_all (h : Surf N T) {v : Int} (hv : 0 ≤ v ∧ v < N) (hi : innerAt T N v = true) {c : Nat} (hc : c < 3 * T.length) (hcv : vt T c = v) : ∃ d, aft T c = some d := by
  obtain ⟨hne, r⟩ := h.ring_in hv
  obtain ⟨i, hi', rfl⟩ := List.getElem_of_mem ((r.mem c).2 ⟨hc, hcv⟩)
  rcases Nat.lt_or_ge (i + 1) (ringAt T N v).length with h1 | h1
  · exact ⟨_, r.step h1⟩
  · have e : i = (ringAt T N v).length - 1 := by omega
    subst e
    exact ⟨_, r.turn hne hi⟩
/-- An inner vertex has three corners at least. -/
theorem inner_three (h : Surf N T) {v : Int} (hv : 0 ≤ v ∧ v < N) (hi : innerAt T N v = true) : 3 ≤ (ringAt T N v).length := by
  obtain ⟨hne, r⟩ := h.ring_in hv
  have hm := fun (i : Nat) (hi : i < (ringAt T N v).length) => (r.mem _).1 (List.getElem_mem hi)
  rcases Nat.lt_or_ge 2 (ringAt T N v).length with h3 | h3
  · exact h3
  · exfalso
    obtain ⟨c, hc⟩ : ∃ c, c = (ringAt T N v)[0] := ⟨_, rfl⟩
    have hc0 := hm 0 hne
    rw [← hc] at hc0
    rcases Nat.lt_or_ge 1 (ringAt T N v).length with h2 | h2
    · have s1 := r.step (i := 0) h2
      have s2 := r.turn hne hi
      obtain ⟨d, hd⟩ : ∃ d, d = (ringAt T N v)[1] := ⟨_, rfl⟩
      have hd0 := hm 1 h2
      rw [← hd] at hd0
      have e2 : (ringAt T N v)[(ringAt T N v).length - 1]'(by omega) = d := by rw [hd]; congr 1; omega
      rw [← hc] at s1 s2
      rw [e2] at s2
      rw [show (ringAt T N v)[0 + 1]'h2 = d from hd.symm] at s1
      obtain ⟨a1, a2, a3⟩ := h.aft_iff.1 s1
      obtain ⟨b1, b2, b3⟩ := h.aft_iff.1 s2
      -- two triangles of the same vertices
      have hcd : c / 3 ≠ d / 3 := fun h9 => by
        have h8 := h.same_tri hc0.1 h9 (by rw [hc0.2, hd0.2])
        subst h8
        have := h.loop3 hc0.1
        rw [a3] at this; exact this rfl
      have key : ∀ x y : Nat, x < 3 * T.length → y < 3 * T.length → vt T x = vt T y → vt T (nx x) = vt T (pv y) → vt T (pv x) = vt T (nx y) → x / 3 < y / 3 → False := fun x y hx hy k1 k2 k3 hlt => by
        refine h.mirror (x / 3) (y / 3) hlt (by omega) fun k hk => ?_
        have hxk : 3 * (x / 3) + k = x ∨ 3 * (x / 3) + k = nx x ∨ 3 * (x / 3) + k = pv x := by unfold nx pv; omega
        have hy' : ∀ z, z / 3 = y / 3 → ∃ m, m < 3 ∧ vt T z = vt T (3 * (y / 3) + m) := fun z hz => ⟨z % 3, by omega, by rw [show 3 * (y / 3) + z % 3 = z by omega]⟩
        rcases hxk with h9 | h9 | h9 <;> rw [h9]
        · rw [k1]; exact hy' y rfl
        · rw [k2]; exact hy' _ (pv_div y)
        · rw [k3]; exact hy' _ (nx_div y)
      rcases Nat.lt_or_ge (c / 3) (d / 3) with h9 | h9
      · exact key c d hc0.1 hd0.1 (by rw [hc0.2, hd0.2]) b3 a3.symm h9
      · exact key d c hd0.1 hc0.1 (by rw [hc0.2, hd0.2]) a3 b3.symm (by omega)
    · have s2 := r.turn hne hi
      have e2 : (ringAt T N v)[(ringAt T N v).length - 1]'(by omega) = c := by rw [hc]; congr 1; omega
      rw [e2, ← hc] at s2
      exact h.loop3 hc0.1 (h.aft_iff.1 s2).2.2
/-- The edge across from a vertex is one along its link. -/
theorem star_edge (h : Surf N T) {v : Int} (hv : 0 ≤ v ∧ v < N) (hi : innerAt T N v = true) {c : Nat} (hc : c < 3 * T.length) (hcv : vt T c = v) : eg T c ∈ loopE (linkAt T N v) := by
  obtain ⟨hne, r⟩ := h.ring_in hv
  have hlk := linkAt_of_inner h hv hi
  obtain ⟨i, hi', rfl⟩ := List.getElem_of_mem ((r.mem c).2 ⟨hc, hcv⟩)
  have hlen : (linkAt T N v).length = (ringAt T N v).length := by rw [hlk, List.length_map]
  have hg : ∀ j (hj : j < (ringAt T N v).length), (linkAt T N v).getD j 0 = vt T (nx (ringAt T N v)[j]) := fun j hj => by
    rw [hlk, List.getD_eq_getElem?_getD, List.getElem?_map, List.getElem?_eq_getElem hj]; rfl
  refine mem_loopE.2 ⟨i, by omega, ?_⟩
  rw [hlen, hg i hi', hg _ (Nat.mod_lt _ hne)]
  refine Prod.ext rfl ?_
  show vt T (pv (ringAt T N v)[i]) = _
  rcases succ_mod hi' with ⟨h1, e⟩ | ⟨h1, e⟩
  · simp only [e]
    exact (h.aft_iff.1 (r.step h1)).2.2.symm
  · simp only [e]
    have e9 : i = (ringAt T N v).length - 1 := by omega
    have := r.turn hne hi
    subst e9
    exact (h.aft_iff.1 this).2.2.symm
/-- Each edge along a link is across from the vertex. -/
theorem link_edge (h : Surf N T) {v : Int} (hv : 0 ≤ v ∧ v < N) (hi : innerAt T N v = true) {e : Int × Int} (he : e ∈ loopE (linkAt T N v)) : ∃ c, c < 3 * T.length ∧ vt T c = v ∧ eg T c = e := by
  obtain ⟨hne, r⟩ := h.ring_in hv
  have hlk := linkAt_of_inner h hv hi
  have hlen : (linkAt T N v).length = (ringAt T N v).length := by rw [hlk, List.length_map]
  obtain ⟨i, hi', rfl⟩ := mem_loopE.1 he
  rw [hlen] at hi' ⊢
  have hm := (r.mem _).1 (List.getElem_mem hi')
  refine ⟨_, hm.1, hm.2, ?_⟩
  have hg : ∀ j (hj : j < (ringAt T N v).length), (linkAt T N v).getD j 0 = vt T (nx (ringAt T N v)[j]) := fun j hj => by
    rw [hlk, List.getD_eq_getElem?_getD, List.getElem?_map, List.getElem?_eq_getElem hj]; rfl
  rw [hg i hi', hg _ (Nat.mod_lt _ hne)]
  refine Prod.ext rfl ?_
  show vt T (pv (ringAt T N v)[i]) = _
  rcases succ_mod hi' with ⟨h1, e⟩ | ⟨h1, e⟩
  · simp only [e]
    exact (h.aft_iff.1 (r.step h1)).2.2.symm
  · simp only [e]
    have e9 : i = (ringAt T N v).length - 1 := by omega
    have := r.turn hne hi
    subst e9
    exact (h.aft_iff.1 this).2.2.symm
end
end Go.Mesh

namespace Go.Mesh
section
variable {N M : Int} {T X : List T3} {O : List Int} {v : Int}
/-- What goes on to who is beside goes on to all one comes to. -/
theorem Con.closed (h : Surf N T) (P : Nat → Prop) (hP : ∀ x y, P x → besd T x y = true → P y) {a b : Nat} (c : Con T a b) (ha : P a) : P b := by
  obtain ⟨d, hd⟩ := c
  induction d generalizing b with
  | zero => rw [rch_zero.1 hd]; exact ha
  | succ d ih =>
    rcases h.rch_succ.1 hd with h1 | ⟨y, h1, h2⟩
    · exact ih h1
    · exact hP y b (ih h1) h2
/-- Does a triangle have a vertex? -/
def AtV (T : List T3) (v : Int) (t : Nat) : Prop := ∃ c, c < 3 * T.length ∧ c / 3 = t ∧ vt T c = v
theorem besd_of (_ : Surf N T) {c d : Nat} (h : opp T c = some d) : besd T (c / 3) (d / 3) = true := by
  refine besd_iff.2 ⟨c % 3, by omega, ?_⟩
  unfold nb
  rw [show 3 * (c / 3) + c % 3 = c by omega, h]; rfl
theorem of_besd {x y : Nat} (h : besd T x y = true) : ∃ c d, c / 3 = x ∧ d / 3 = y ∧ opp T c = some d := by
  obtain ⟨k, hk, h1⟩ := besd_iff.1 h
  unfold nb at h1
  obtain ⟨d, hd, rfl⟩ := Option.map_eq_some_iff.1 h1
  exact ⟨3 * x + k, d, by omega, rfl, hd⟩
/-- An inner vertex, and a cut along its link. -/
structure Star (N : Int) (T : List T3) (v : Int) (X : List T3) (O : List Int) : Prop where
  surf : Surf N T
  rng : 0 ≤ v ∧ v < N
  inner : innerAt T N v = true
  numb : Numb N T ((loopE (linkAt T N v)).map nm) X O
  parts : Parts T ((loopE (linkAt T N v)).map nm)
  cut : Surf (O.length : Nat) X
theorem Star.uncut (s : Star N T v X O) (x : Int) : nm (v, x) ∉ (loopE (linkAt T N v)).map nm := fun h => by
  obtain ⟨e, he, h1⟩ := List.mem_map.1 h
  have hv : v ∉ linkAt T N v := fun h => (link_rng s.surf s.rng h).2.2 rfl
  have h3 := inner_three s.surf s.rng s.inner
  have hl : (linkAt T N v).length = (ringAt T N v).length := by rw [linkAt_of_inner s.surf s.rng s.inner, List.length_map]
  have := loopE_no_ends hv (by omega) e he
  rcases nm_eq.1 (show nm (e.1, e.2) = nm (v, x) from h1) with ⟨h2, _⟩ | ⟨_, h2⟩
  · exact this.1 h2
  · exact this.2 h2
theorem Star.one (s : Star N T v X O) {c d : Nat} (hc : c < 3 * T.length) (hcv : vt T c = v) (hd : d < 3 * T.length) (hdv : vt T d = v) : Sect T ((loopE (linkAt T N v)).map nm) c d := by
  refine s.surf.closed_all s.rng.1 s.rng.2 (fun x => Sect T ((loopE (linkAt T N v)).map nm) c x) hc hcv (Sect.refl c) (fun x y hx hxv h ha => ?_) (fun x y hx hxv h hb => ?_) d hd hdv
  · refine h.trans (Sect.step hx ha fun h9 => ?_)
    unfold ctB at h9
    rw [s.surf.aft_vt ha, hxv] at h9
    exact s.uncut _ h9
  · refine h.trans (Sect.step (s.surf.bef_iff.1 hb).1 (s.surf.bef_aft hx hb) fun h9 => ?_).symm
    unfold ctB at h9
    rw [hxv] at h9
    exact s.uncut _ h9
theorem Star.vtX (s : Star N T v X O) {c : Nat} (hc : c < 3 * T.length) : vt X c = v ↔ vt T c = v := by
  have h0 := s.numb.old v.toNat (by have := s.rng; omega)
  have hv : ((v.toNat : Nat) : Int) = v := Int.toNat_of_nonneg s.rng.1
  obtain ⟨b, hb, hbv⟩ := s.numb.used v.toNat (List.getElem?_eq_some_iff.1 h0).1
  obtain ⟨k, h1, h2⟩ := s.numb.was b hb
  have hk : k = v.toNat := by omega
  subst hk
  rw [h0, hv] at h2
  have h2 := (Option.some.inj h2).symm
  constructor
  · intro h
    obtain ⟨m, g1, g2⟩ := s.numb.was c hc
    have : m = v.toNat := by omega
    subst this
    rw [h0, hv] at g2
    exact (Option.some.inj g2).symm
  · intro h
    rw [(s.numb.same c b hc hb).2 (s.one hc h hb h2), hbv, hv]
theorem Star.oppX (s : Star N T v X O) {c d : Nat} (hc : c < 3 * T.length) : opp X c = some d ↔ opp T c = some d ∧ nm (eg T c) ∉ (loopE (linkAt T N v)).map nm := s.numb.opp_iff s.surf s.parts hc
/-- A step around the vertex is still one. -/
theorem Star.aftX (s : Star N T v X O) {c d : Nat} (hc : c < 3 * T.length) (hcv : vt T c = v) (ha : aft T c = some d) : aft X c = some d := by
  unfold aft at ha ⊢
  obtain ⟨o, ho, rfl⟩ := Option.map_eq_some_iff.1 ha
  rw [(s.oppX (nx_lt hc)).2 ⟨ho, fun h => ?_⟩]
  · rfl
  · unfold eg at h
    rw [nx_nx, pv_nx, nm_swap, hcv] at h
    exact s.uncut _ h
theorem Star.rngX (s : Star N T v X O) : 0 ≤ v ∧ v < (O.length : Nat) := by
  have := s.rng
  have h0 := (List.getElem?_eq_some_iff.1 (s.numb.old v.toNat (by omega))).1
  omega
/-- The vertex is inner, and has as many corners. -/
theorem Star.ring (s : Star N T v X O) : innerAt X (O.length : Nat) v = true ∧ (ringAt X (O.length : Nat) v).length = (ringAt T N v).length := by
  have hl := s.numb.len
  have hmem : ∀ c, c ∈ ringAt X (O.length : Nat) v ↔ c ∈ ringAt T N v := fun c => by
    rw [s.cut.ring_mem, s.surf.ring_mem, hl]
    exact and_congr_right fun hc => s.vtX hc
  refine ⟨?_, same_len (s.cut.ring_nodup v) (s.surf.ring_nodup v) hmem⟩
  obtain ⟨hne, r⟩ := s.cut.ring_in s.rngX
  cases hi : innerAt X (O.length : Nat) v with
  | true => rfl
  | false =>
    exfalso
    have h1 := (r.last hne).2 hi
    have h2 := (s.surf.ring_mem v _).1 ((hmem _).1 (List.getElem_mem (l := ringAt X (O.length : Nat) v) (n := (ringAt X (O.length : Nat) v).length - 1) (by omega)))
    obtain ⟨d, hd⟩ := inner_all s.surf s.rng s.inner h2.1 h2.2
    rw [s.aftX h2.1 h2.2 hd] at h1
    cases h1
/-- Its triangles are a shell of their own. -/
theorem Star.shell (s : Star N T v X O) {a b : Nat} (ha : AtV T v a) : AtV T v b ↔ Con X a b := by
  have hl := s.numb.len
  constructor
  · rintro ⟨d, hd, rfl, hdv⟩
    obtain ⟨c, hc, rfl, hcv⟩ := ha
    refine s.surf.closed_all s.rng.1 s.rng.2 (fun x => Con X (c / 3) (x / 3)) hc hcv (Con.refl _) (fun x y hx hxv h hxy => ?_) (fun x y hx hxv h hb => ?_) d hd hdv
    · have h1 := s.aftX hx hxv hxy
      unfold aft at h1
      obtain ⟨o, ho, rfl⟩ := Option.map_eq_some_iff.1 h1
      have := besd_of s.cut ho
      rw [nx_div] at this
      rw [nx_div]
      exact h.step s.cut this
    · have hy := (s.surf.bef_iff.1 hb).1
      have h1 := s.aftX hy ((s.surf.bef_vt hb).trans hxv) (s.surf.bef_aft hx hb)
      unfold aft at h1
      obtain ⟨o, ho, h9⟩ := Option.map_eq_some_iff.1 h1
      have := s.cut.besd_symm (besd_of s.cut ho)
      rw [nx_div] at this
      rw [← h9, nx_div] at h
      exact h.step s.cut this
  · intro h
    refine h.closed s.cut (AtV T v) (fun x y hx hxy => ?_) ha
    obtain ⟨c, d, rfl, rfl, ho⟩ := of_besd hxy
    have hcl : c < 3 * T.length := by have := s.cut.opp_lt ho; omega
    obtain ⟨e, he, hec, hev⟩ := hx
    obtain ⟨h1, h2⟩ := (s.oppX hcl).1 ho
    have hce : c ≠ e := fun h9 => by
      subst h9
      exact h2 (List.mem_map_of_mem (star_edge s.surf s.rng s.inner he hev))
    obtain ⟨g1, g2, g3⟩ := s.surf.opp_iff.1 h1
    have hor : e = nx c ∨ e = pv c := by unfold nx pv; omega
    rcases hor with rfl | rfl
    · exact ⟨pv d, pv_lt g1, pv_div d, g3.trans hev⟩
    · exact ⟨nx d, nx_lt g1, nx_div d, g2.trans hev⟩
end
end Go.Mesh
