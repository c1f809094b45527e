/- The mirrored surface: plain. -/
import Derived.Test.YtdljcemnbbamcaaMP
namespace Go.Mesh
def mirT (t : T3) : T3 := (t.1, t.2.2, t.2.1)
def mir (T : List T3) : List T3 := T.map mirT
/-- The corner of the mirrored triangles that was one. -/
def mc (c : Nat) : Nat := c - c % 3 + (3 - c % 3) % 3
theorem mc_div (c : Nat) : mc c / 3 = c / 3 := by unfold mc; omega
theorem mc_mc (c : Nat) : mc (mc c) = c := by unfold mc; omega
theorem nx_mc (c : Nat) : nx (mc c) = mc (pv c) := by unfold nx mc pv; omega
theorem pv_mc (c : Nat) : pv (mc c) = mc (nx c) := by unfold nx mc pv; omega
theorem mc_lt {c n : Nat} (h : c < 3 * n) : mc c < 3 * n := by unfold mc; omega
theorem mc_inj {c d : Nat} (h : mc c = mc d) : c = d := by rw [← mc_mc c, h, mc_mc]
theorem mir_len (T : List T3) : (mir T).length = T.length := List.length_map _
theorem mir_mir (T : List T3) : mir (mir T) = T := by
  unfold mir
  rw [List.map_map]
  conv => rhs; rw [← List.map_id T]
  apply List.map_congr_left
  intro t _
  rfl
theorem vt_mir {T : List T3} {c : Nat} (hc : c < 3 * T.length) : vt (mir T) (mc c) = vt T c := by
  unfold vt
  rw [mc_div]
  have hi : c / 3 < T.length := by omega
  have e1 : T.getD (c / 3) (0, 0, 0) = T[c / 3] := by rw [List.getD_eq_getElem?_getD, List.getElem?_eq_getElem hi]; rfl
  have e2 : (mir T).getD (c / 3) (0, 0, 0) = mirT T[c / 3] := by
    rw [List.getD_eq_getElem?_getD, List.getElem?_eq_getElem (by rw [mir_len]; exact hi)]
    unfold mir
    rw [List.getElem_map]
    rfl
  rw [e1, e2]
  have h3 : c % 3 = 0 ∨ c % 3 = 1 ∨ c % 3 = 2 := by omega
  rcases h3 with h | h | h
  · rw [show mc c % 3 = 0 by unfold mc; omega, h]; rfl
  · rw [show mc c % 3 = 2 by unfold mc; omega, h]; rfl
  · rw [show mc c % 3 = 1 by unfold mc; omega, h]; rfl
theorem vt_mir' {T : List T3} {c : Nat} (hc : c < 3 * T.length) : vt (mir T) c = vt T (mc c) := by
  have := vt_mir (T := T) (c := mc c) (mc_lt hc)
  rwa [mc_mc] at this
theorem eg_mir {T : List T3} {c : Nat} (hc : c < 3 * T.length) : eg (mir T) c = ((eg T (mc c)).2, (eg T (mc c)).1) := by
  unfold eg
  rw [vt_mir' (nx_lt hc), vt_mir' (pv_lt hc)]
  have h1 : mc (nx c) = pv (mc c) := (pv_mc c).symm
  have h2 : mc (pv c) = nx (mc c) := (nx_mc c).symm
  rw [h1, h2]
theorem Surf.mir {N : Int} {T : List T3} (h : Surf N T) : Surf N (Mesh.mir T) := by
  refine ⟨h.n0, h.nmax, by rw [mir_len]; exact h.tmax, fun c hc => ?_, fun c hc => ?_, fun c d hc hd e => ?_, fun i j hij hj hall => ?_, fun v h0 h1 => ?_, fun v h0 h1 => ?_⟩
  · rw [mir_len] at hc
    rw [vt_mir' hc]
    exact h.rng _ (mc_lt hc)
  · rw [mir_len] at hc
    rw [vt_mir' hc, vt_mir' (nx_lt hc), show mc (nx c) = pv (mc c) from (pv_mc c).symm]
    exact h.loop2 (mc_lt hc)
  · rw [mir_len] at hc hd
    rw [eg_mir hc, eg_mir hd] at e
    injection e with e1 e2
    exact mc_inj (h.once _ _ (mc_lt hc) (mc_lt hd) (Prod.ext e2 e1))
  · rw [mir_len] at hj
    refine h.mirror i j hij hj fun k hk => ?_
    obtain ⟨m, hm, e⟩ := hall (mc k) (by unfold mc; omega)
    rw [vt_mir' (by unfold mc; omega), vt_mir' (by omega)] at e
    refine ⟨mc m, by unfold mc; omega, ?_⟩
    rw [show mc (3 * i + mc k) = 3 * i + k by unfold mc; omega, show mc (3 * j + m) = 3 * j + mc m by unfold mc; omega] at e
    exact e
  · obtain ⟨c, hc, e⟩ := h.used v h0 h1
    exact ⟨mc c, by rw [mir_len]; exact mc_lt hc, by rw [vt_mir hc]; exact e⟩
  · intro P ⟨c0, hc0, hv0, hP0⟩ hs c hc hv
    rw [mir_len] at hc0 hc
    rw [vt_mir' hc0] at hv0
    rw [vt_mir' hc] at hv
    have := h.fan v h0 h1 (fun d => P (mc d)) ⟨mc c0, mc_lt hc0, hv0, by rw [mc_mc]; exact hP0⟩ (fun a b ha hav hb hbv hPa hsh => by
      refine hs (mc a) (mc b) (by rw [mir_len]; exact mc_lt ha) (by rw [vt_mir ha]; exact hav) (by rw [mir_len]; exact mc_lt hb) (by rw [vt_mir hb]; exact hbv) hPa ?_
      unfold share at hsh ⊢
      rw [nx_mc, nx_mc, pv_mc, pv_mc, vt_mir (pv_lt ha), vt_mir (pv_lt hb), vt_mir (nx_lt ha), vt_mir (nx_lt hb)]
      rcases hsh with h | h | h | h
      · exact .inr (.inr (.inr h))
      · exact .inr (.inr (.inl h))
      · exact .inr (.inl h)
      · exact .inl h) (mc c) (mc_lt hc) hv
    simp only [mc_mc] at this
    exact this

/-- y comes behind x around v. -/
def Rel (T : List T3) (v x y : Int) : Prop := ∃ c, c < 3 * T.length ∧ vt T c = v ∧ vt T (nx c) = x ∧ vt T (pv c) = y
theorem rel_mir {T : List T3} {v x y : Int} : Rel (mir T) v x y ↔ Rel T v y x := by
  constructor
  · rintro ⟨c, hc, h1, h2, h3⟩
    rw [mir_len] at hc
    rw [vt_mir' hc] at h1
    rw [vt_mir' (nx_lt hc), show mc (nx c) = pv (mc c) from (pv_mc c).symm] at h2
    rw [vt_mir' (pv_lt hc), show mc (pv c) = nx (mc c) from (nx_mc c).symm] at h3
    exact ⟨mc c, mc_lt hc, h1, h3, h2⟩
  · rintro ⟨c, hc, h1, h2, h3⟩
    refine ⟨mc c, by rw [mir_len]; exact mc_lt hc, by rw [vt_mir hc]; exact h1, ?_, ?_⟩
    · rw [nx_mc, vt_mir (pv_lt hc)]; exact h3
    · rw [pv_mc, vt_mir (nx_lt hc)]; exact h2
section
variable {N : Int} {T : List T3}
theorem rel_fun (h : Surf N T) {v x y y' : Int} (h1 : Rel T v x y) (h2 : Rel T v x y') : y = y' := by
  obtain ⟨c, hc, e1, e2, rfl⟩ := h1
  obtain ⟨d, hd, f1, f2, rfl⟩ := h2
  have : pv c = pv d := h.once _ _ (pv_lt hc) (pv_lt hd) (by unfold eg; rw [nx_pv, nx_pv, pv_pv, pv_pv, e1, f1, e2, f2])
  rw [pv_inj this]
theorem rel_link (h : Surf N T) {v : Int} (hv : 0 ≤ v ∧ v < N) {i : Nat} (hi : i < (ringAt T N v).length) {x y : Int} (hx : (linkAt T N v)[i]? = some x) (hy : (linkAt T N v)[(i + 1) % (linkAt T N v).length]? = some y) : Rel T v x y := by
  obtain ⟨h1, h2⟩ := link_next h hv hi
  rw [h1] at hx; rw [h2] at hy
  have hm := (h.ring_mem v _).1 (List.getElem_mem hi)
  exact ⟨_, hm.1, hm.2, Option.some.inj hx, Option.some.inj hy⟩
theorem rel_mem (h : Surf N T) {v : Int} {x y : Int} (hr : Rel T v x y) : ∃ i, i < (ringAt T N v).length ∧ (linkAt T N v)[i]? = some x := by
  obtain ⟨c, hc, rfl, rfl, rfl⟩ := hr
  have hm := (h.ring_mem (vt T c) c).2 ⟨hc, rfl⟩
  obtain ⟨i, hi, e⟩ := List.getElem_of_mem hm
  have hv := h.rng c hc
  obtain ⟨h1, _⟩ := link_next h hv hi
  exact ⟨i, hi, by rw [h1, e]⟩
theorem link_mem_mir (h : Surf N T) {v : Int} (hv : 0 ≤ v ∧ v < N) (x : Int) : x ∈ linkAt (mir T) N v ↔ x ∈ linkAt T N v := by
  rw [link_mem h.mir hv, link_mem h hv]
  constructor
  · rintro ⟨c, hc, h1, h2⟩
    rw [mir_len] at hc
    refine ⟨mc c, mc_lt hc, by rw [← vt_mir' hc]; exact h1, ?_⟩
    rw [vt_mir' (nx_lt hc), vt_mir' (pv_lt hc), show mc (nx c) = pv (mc c) from (pv_mc c).symm, show mc (pv c) = nx (mc c) from (nx_mc c).symm] at h2
    exact h2.symm
  · rintro ⟨c, hc, h1, h2⟩
    refine ⟨mc c, by rw [mir_len]; exact mc_lt hc, by rw [vt_mir hc]; exact h1, ?_⟩
    rw [nx_mc, pv_mc, vt_mir (pv_lt hc), vt_mir (nx_lt hc)]
    exact h2.symm
theorem nodup_len_eq {l m : List Int} (h1 : l.Nodup) (h2 : m.Nodup) (h : ∀ x, x ∈ l ↔ x ∈ m) : l.length = m.length :=
  ((List.perm_ext_iff_of_nodup h1 h2).2 h).length_eq
theorem link_len_mir (h : Surf N T) {v : Int} (hv : 0 ≤ v ∧ v < N) : (linkAt (mir T) N v).length = (linkAt T N v).length := nodup_len_eq (link_nodup h.mir hv) (link_nodup h hv) (link_mem_mir h hv)
theorem ring_len_mir (h : Surf N T) (v : Int) : (ringAt (mir T) N v).length = (ringAt T N v).length := by
  have e : (ringAt T N v).length = ((ringAt T N v).map mc).length := (List.length_map _).symm
  rw [e]
  apply List.Perm.length_eq
  refine (List.perm_ext_iff_of_nodup (h.mir.ring_nodup v) (nodup_inj (h.ring_nodup v) fun a _ b _ e => mc_inj e)).2 fun c => ?_
  rw [h.mir.ring_mem, mir_len, List.mem_map]
  constructor
  · rintro ⟨hc, hv⟩
    rw [vt_mir' hc] at hv
    exact ⟨mc c, (h.ring_mem v _).2 ⟨mc_lt hc, hv⟩, mc_mc c⟩
  · rintro ⟨d, hd, rfl⟩
    obtain ⟨h1, h2⟩ := (h.ring_mem v d).1 hd
    exact ⟨mc_lt h1, by rw [vt_mir h1]; exact h2⟩
theorem inner_mir (h : Surf N T) {v : Int} (hv : 0 ≤ v ∧ v < N) : innerAt (mir T) N v = innerAt T N v := by
  have h1 := link_len h hv
  have h2 := link_len h.mir hv
  rw [link_len_mir h hv, ring_len_mir h v] at h2
  cases hi : innerAt T N v <;> cases hj : innerAt (mir T) N v <;> simp_all
/-- The link of the mirrored surface, from the last one of the link on, is the link backward. -/
theorem link_mir (h : Surf N T) {v : Int} (hv : 0 ≤ v ∧ v < N) {t : Nat} (ht : (linkAt (mir T) N v)[t]? = (linkAt T N v)[(linkAt T N v).length - 1]?) (htl : t < (linkAt T N v).length) :
    (innerAt T N v = false → t = 0) ∧ ∀ i, i < (linkAt T N v).length → (linkAt (mir T) N v)[(t + i) % (linkAt T N v).length]? = (linkAt T N v)[(linkAt T N v).length - 1 - i]? := by
  have hlen := link_len h hv
  have hlm := link_len_mir h hv
  have hrm := ring_len_mir h v
  have hrl := (h.ring_in hv).1
  have hnd := link_nodup h hv
  have hndm := link_nodup h.mir hv
  have hrel := fun i (hi : i < (ringAt T N v).length) x y => rel_link h hv hi (x := x) (y := y)
  have hrelm := fun i (hi : i < (ringAt (mir T) N v).length) x y => rel_link h.mir hv hi (x := x) (y := y)
  have hpos := fun x y => rel_mem h (v := v) (x := x) (y := y)
  rw [hrm] at hrelm
  rw [hlm] at hrelm
  generalize linkAt T N v = K at *
  generalize linkAt (mir T) N v = M at *
  generalize (ringAt T N v).length = r at *
  have ht0 : innerAt T N v = false → t = 0 := by
    intro hi
    rw [hi] at hlen
    simp only [Bool.false_eq_true, if_false] at hlen
    cases t with
    | zero => rfl
    | succ t =>
      exfalso
      have hx : M[t + 1]? = some (M[t + 1]'(by omega)) := List.getElem?_eq_getElem (by omega)
      have hy : M[t]? = some (M[t]'(by omega)) := List.getElem?_eq_getElem (by omega)
      have := hrelm t (by omega) _ _ hy (by rw [Nat.mod_eq_of_lt (by omega)]; exact hx)
      rw [rel_mir] at this
      obtain ⟨j, hj, e⟩ := hpos _ _ this
      rw [hx, List.getElem?_eq_getElem (by omega)] at ht
      rw [List.getElem?_eq_getElem (by omega)] at e
      have e2 := (List.getElem_inj hnd).1 ((Option.some.inj e).trans (Option.some.inj ht))
      omega
  refine ⟨ht0, fun i => ?_⟩
  induction i with
  | zero => intro _; rw [Nat.add_zero, Nat.mod_eq_of_lt htl, Nat.sub_zero]; exact ht
  | succ i ih =>
    intro hi
    have ih := ih (by omega)
    have hml : (t + i) % K.length < M.length := by rw [hlm]; exact Nat.mod_lt _ (by omega)
    have hml2 : (t + (i + 1)) % K.length < M.length := by rw [hlm]; exact Nat.mod_lt _ (by omega)
    have hmr : (t + i) % K.length < r := by
      cases hin : innerAt T N v with
      | true => rw [hin] at hlen; simp only [if_true] at hlen; omega
      | false =>
        have := ht0 hin
        subst this
        rw [hin] at hlen
        simp only [Bool.false_eq_true, if_false] at hlen
        rw [Nat.zero_add, Nat.mod_eq_of_lt (by omega)]
        omega
    have hsucc : ((t + i) % K.length + 1) % K.length = (t + (i + 1)) % K.length := by rw [Nat.mod_add_mod, Nat.add_assoc]
    have h1 := hrelm _ hmr _ _ (List.getElem?_eq_getElem hml) (by rw [hsucc]; exact List.getElem?_eq_getElem hml2)
    rw [rel_mir] at h1
    have hk1 : K.length - 1 - (i + 1) + 1 = K.length - 1 - i := by omega
    have hrk : K.length - 1 - (i + 1) < r := by
      cases hin : innerAt T N v with
      | true => rw [hin] at hlen; simp only [if_true] at hlen; omega
      | false => rw [hin] at hlen; simp only [Bool.false_eq_true, if_false] at hlen; omega
    have h2 := hrel _ hrk _ _ (List.getElem?_eq_getElem (by omega)) (by rw [hk1, Nat.mod_eq_of_lt (by omega)]; exact List.getElem?_eq_getElem (by omega))
    rw [List.getElem?_eq_getElem hml, List.getElem?_eq_getElem (by omega)] at ih
    rw [Option.some.inj ih] at h1
    rw [← rel_mir] at h1 h2
    have := rel_fun h.mir h1 h2
    rw [List.getElem?_eq_getElem hml2, List.getElem?_eq_getElem (by omega), this]
end
end Go.Mesh
