/- The mirrored surface: plain. The law RingArounds, walked. The law RingTurns, walked. Walks: the document's Inner, Link, Near. The law RingTells, walked. Walks: soup.Mirror. -/
import Derived.Test.YtpbdcppaiafbgaaMP
import Derived.Test.YtpbdcppaiafbgaaTS
namespace Go.Mesh
def mirT (t : T3) : T3 := (t.1, t.2.2, t.2.1)
def mir (T : List T3) : List T3 := T.map mirT
/-- The corner of the mirrored triangles that was one. -/
def mc (c : Nat) : Nat := c - c % 3 + (3 - c % 3) % 3
theorem mc_div (c : Nat) : mc c / 3 = c / 3 := by unfold mc; omega
theorem mc_mc (c : Nat) : mc (mc c) = c := by unfold mc; omega
theorem nx_mc (c : Nat) : nx (mc c) = mc (pv c) := by unfold nx mc pv; omega
theorem pv_mc (c : Nat) : pv (mc c) = mc (nx c) := by unfold nx mc pv; omega
theorem mc_lt {c n : Nat} (h : c < 3 * n) : mc c < 3 * n := by unfold mc; omega
theorem mc_inj {c d : Nat} (h : mc c = mc d) : c = d := by rw [← mc_mc c, h, mc_mc]
theorem mir_len (T : List T3) : (mir T).length = T.length := List.length_map _
theorem mir_mir (T : List T3) : mir (mir T) = T := by
  unfold mir
  rw [List.map_map]
  conv => rhs; rw [← List.map_id T]
  apply List.map_congr_left
  intro t _
  rfl
theorem vt_mir {T : List T3} {c : Nat} (hc : c < 3 * T.length) : vt (mir T) (mc c) = vt T c := by
  unfold vt
  rw [mc_div]
  have hi : c / 3 < T.length := by omega
  have e1 : T.getD (c / 3) (0, 0, 0) = T[c / 3] := by rw [List.getD_eq_getElem?_getD, List.getElem?_eq_getElem hi]; rfl
  have e2 : (mir T).getD (c / 3) (0, 0, 0) = mirT T[c / 3] := by
    rw [List.getD_eq_getElem?_getD, List.getElem?_eq_getElem (by rw [mir_len]; exact hi)]
    unfold mir
    rw [List.getElem_map]
    rfl
  rw [e1, e2]
  have h3 : c % 3 = 0 ∨ c % 3 = 1 ∨ c % 3 = 2 := by omega
  rcases h3 with h | h | h
  · rw [show mc c % 3 = 0 by unfold mc; omega, h]; rfl
  · rw [show mc c % 3 = 2 by unfold mc; omega, h]; rfl
  · rw [show mc c % 3 = 1 by unfold mc; omega, h]; rfl
theorem vt_mir' {T : List T3} {c : Nat} (hc : c < 3 * T.length) : vt (mir T) c = vt T (mc c) := by
  have := vt_mir (T := T) (c := mc c) (mc_lt hc)
  rwa [mc_mc] at this
theorem eg_mir {T : List T3} {c : Nat} (hc : c < 3 * T.length) : eg (mir T) c = ((eg T (mc c)).2, (eg T (mc c)).1) := by
  unfold eg
  rw [vt_mir' (nx_lt hc), vt_mir' (pv_lt hc)]
  have h1 : mc (nx c) = pv (mc c) := (pv_mc c).symm
  have h2 : mc (pv c) = nx (mc c) := (nx_mc c).symm
  rw [h1, h2]
theorem Surf.mir {N : Int} {T : List T3} (h : Surf N T) : Surf N (Mesh.mir T) := by
  refine ⟨h.n0, h.nmax, by rw [mir_len]; exact h.tmax, fun c hc => ?_, fun c hc => ?_, fun c d hc hd e => ?_, fun i j hij hj hall => ?_, fun v h0 h1 => ?_, fun v h0 h1 => ?_⟩
  · rw [mir_len] at hc
    rw [vt_mir' hc]
    exact h.rng _ (mc_lt hc)
  · rw [mir_len] at hc
    rw [vt_mir' hc, vt_mir' (nx_lt hc), show mc (nx c) = pv (mc c) from (pv_mc c).symm]
    exact h.loop2 (mc_lt hc)
  · rw [mir_len] at hc hd
    rw [eg_mir hc, eg_mir hd] at e
    injection e with e1 e2
    exact mc_inj (h.once _ _ (mc_lt hc) (mc_lt hd) (Prod.ext e2 e1))
  · rw [mir_len] at hj
    refine h.mirror i j hij hj fun k hk => ?_
    obtain ⟨m, hm, e⟩ := hall (mc k) (by unfold mc; omega)
    rw [vt_mir' (by unfold mc; omega), vt_mir' (by omega)] at e
    refine ⟨mc m, by unfold mc; omega, ?_⟩
    rw [show mc (3 * i + mc k) = 3 * i + k by unfold mc; omega, show mc (3 * j + m) = 3 * j + mc m by unfold mc; omega] at e
    exact e
  · obtain ⟨c, hc, e⟩ := h.used v h0 h1
    exact ⟨mc c, by rw [mir_len]; exact mc_lt hc, by rw [vt_mir hc]; exact e⟩
  · intro P ⟨c0, hc0, hv0, hP0⟩ hs c hc hv
    rw [mir_len] at hc0 hc
    rw [vt_mir' hc0] at hv0
    rw [vt_mir' hc] at hv
    have := h.fan v h0 h1 (fun d => P (mc d)) ⟨mc c0, mc_lt hc0, hv0, by rw [mc_mc]; exact hP0⟩ (fun a b ha hav hb hbv hPa hsh => by
      refine hs (mc a) (mc b) (by rw [mir_len]; exact mc_lt ha) (by rw [vt_mir ha]; exact hav) (by rw [mir_len]; exact mc_lt hb) (by rw [vt_mir hb]; exact hbv) hPa ?_
      unfold share at hsh ⊢
      rw [nx_mc, nx_mc, pv_mc, pv_mc, vt_mir (pv_lt ha), vt_mir (pv_lt hb), vt_mir (nx_lt ha), vt_mir (nx_lt hb)]
      rcases hsh with h | h | h | h
      · exact .inr (.inr (.inr h))
      · exact .inr (.inr (.inl h))
      · exact .inr (.inl h)
      · exact .inl h) (mc c) (mc_lt hc) hv
    simp only [mc_mc] at this
    exact this

/-- y comes behind x around v. -/
def Rel (T : List T3) (v x y : Int) : Prop := ∃ c, c < 3 * T.length ∧ vt T c = v ∧ vt T (nx c) = x ∧ vt T (pv c) = y
theorem rel_mir {T : List T3} {v x y : Int} : Rel (mir T) v x y ↔ Rel T v y x := by
  constructor
  · rintro ⟨c, hc, h1, h2, h3⟩
    rw [mir_len] at hc
    rw [vt_mir' hc] at h1
    rw [vt_mir' (nx_lt hc), show mc (nx c) = pv (mc c) from (pv_mc c).symm] at h2
    rw [vt_mir' (pv_lt hc), show mc (pv c) = nx (mc c) from (nx_mc c).symm] at h3
    exact ⟨mc c, mc_lt hc, h1, h3, h2⟩
  · rintro ⟨c, hc, h1, h2, h3⟩
    refine ⟨mc c, by rw [mir_len]; exact mc_lt hc, by rw [vt_mir hc]; exact h1, ?_, ?_⟩
    · rw [nx_mc, vt_mir (pv_lt hc)]; exact h3
    · rw [pv_mc, vt_mir (nx_lt hc)]; exact h2
section
variable {N : Int} {T : List T3}
theorem rel_fun (h : Surf N T) {v x y y' : Int} (h1 : Rel T v x y) (h2 : Rel T v x y') : y = y' := by
  obtain ⟨c, hc, e1, e2, rfl⟩ := h1
  obtain ⟨d, hd, f1, f2, rfl⟩ := h2
  have : pv c = pv d := h.once _ _ (pv_lt hc) (pv_lt hd) (by unfold eg; rw [nx_pv, nx_pv, pv_pv, pv_pv, e1, f1, e2, f2])
  rw [pv_inj this]
theorem rel_link (h : Surf N T) {v : Int} (hv : 0 ≤ v ∧ v < N) {i : Nat} (hi : i < (ringAt T N v).length) {x y : Int} (hx : (linkAt T N v)[i]? = some x) (hy : (linkAt T N v)[(i + 1) % (linkAt T N v).length]? = some y) : Rel T v x y := by
  obtain ⟨h1, h2⟩ := link_next h hv hi
  rw [h1] at hx; rw [h2] at hy
  have hm := (h.ring_mem v _).1 (List.getElem_mem hi)
  exact ⟨_, hm.1, hm.2, Option.some.inj hx, Option.some.inj hy⟩
theorem rel_mem (h : Surf N T) {v : Int} {x y : Int} (hr : Rel T v x y) : ∃ i, i < (ringAt T N v).length ∧ (linkAt T N v)[i]? = some x := by
  obtain ⟨c, hc, rfl, rfl, rfl⟩ := hr
  have hm := (h.ring_mem (vt T c) c).2 ⟨hc, rfl⟩
  obtain ⟨i, hi, e⟩ := List.getElem_of_mem hm
  have hv := h.rng c hc
  obtain ⟨h1, _⟩ := link_next h hv hi
  exact ⟨i, hi, by rw [h1, e]⟩
theorem link_mem_mir (h : Surf N T) {v : Int} (hv : 0 ≤ v ∧ v < N) (x : Int) : x ∈ linkAt (mir T) N v ↔ x ∈ linkAt T N v := by
  rw [link_mem h.mir hv, link_mem h hv]
  constructor
  · rintro ⟨c, hc, h1, h2⟩
    rw [mir_len] at hc
    refine ⟨mc c, mc_lt hc, by rw [← vt_mir' hc]; exact h1, ?_⟩
    rw [vt_mir' (nx_lt hc), vt_mir' (pv_lt hc), show mc (nx c) = pv (mc c) from (pv_mc c).symm, show mc (pv c) = nx (mc c) from (nx_mc c).symm] at h2
    exact h2.symm
  · rintro ⟨c, hc, h1, h2⟩
    refine ⟨mc c, by rw [mir_len]; exact mc_lt hc, by rw [vt_mir hc]; exact h1, ?_⟩
    rw [nx_mc, pv_mc, vt_mir (pv_lt hc), vt_mir (nx_lt hc)]
    exact h2.symm
theorem nodup_len_eq {l m : List Int} (h1 : l.Nodup) (h2 : m.Nodup) (h : ∀ x, x ∈ l ↔ x ∈ m) : l.length = m.length :=
  ((List.perm_ext_iff_of_nodup h1 h2).2 h).length_eq
theorem link_len_mir (h : Surf N T) {v : Int} (hv : 0 ≤ v ∧ v < N) : (linkAt (mir T) N v).length = (linkAt T N v).length := nodup_len_eq (link_nodup h.mir hv) (link_nodup h hv) (link_mem_mir h hv)
theorem ring_len_mir (h : Surf N T) (v : Int) : (ringAt (mir T) N v).length = (ringAt T N v).length := by
  have e : (ringAt T N v).length = ((ringAt T N v).map mc).length := (List.length_map _).symm
  rw [e]
  apply List.Perm.length_eq
  refine (List.perm_ext_iff_of_nodup (h.mir.ring_nodup v) (nodup_inj (h.ring_nodup v) fun a _ b _ e => mc_inj e)).2 fun c => ?_
  rw [h.mir.ring_mem, mir_len, List.mem_map]
  constructor
  · rintro ⟨hc, hv⟩
    rw [vt_mir' hc] at hv
    exact ⟨mc c, (h.ring_mem v _).2 ⟨mc_lt hc, hv⟩, mc_mc c⟩
  · rintro ⟨d, hd, rfl⟩
    obtain ⟨h1, h2⟩ := (h.ring_mem v d).1 hd
    exact ⟨mc_lt h1, by rw [vt_mir h1]; exact h2⟩
theorem inner_mir (h : Surf N T) {v : Int} (hv : 0 ≤ v ∧ v < N) : innerAt (mir T) N v = innerAt T N v := by
  have h1 := link_len h hv
  have h2 := link_len h.mir hv
  rw [link_len_mir h hv, ring_len_mir h v] at h2
  cases hi : innerAt T N v <;> cases hj : innerAt (mir T) N v <;> simp_all
/-- The link of the mirrored surface, from the last one of the link on, is the link backward. -/
theorem link_mir (h : Surf N T) {v : Int} (hv : 0 ≤ v ∧ v < N) {t : Nat} (ht : (linkAt (mir T) N v)[t]? = (linkAt T N v)[(linkAt T N v).length - 1]?) (htl : t < (linkAt T N v).length) :
    (innerAt T N v = false → t = 0) ∧ ∀ i, i < (linkAt T N v).length → (linkAt (mir T) N v)[(t + i) % (linkAt T N v).length]? = (linkAt T N v)[(linkAt T N v).length - 1 - i]? := by
  have hlen := link_len h hv
  have hlm := link_len_mir h hv
  have hrm := ring_len_mir h v
  have hrl := (h.ring_in hv).1
  have hnd := link_nodup h hv
  have hndm := link_nodup h.mir hv
  have hrel := fun i (hi : i < (ringAt T N v).length) x y => rel_link h hv hi (x := x) (y := y)
  have hrelm := fun i (hi : i < (ringAt (mir T) N v).length) x y => rel_link h.mir hv hi (x := x) (y := y)
  have hpos := fun x y => rel_mem h (v := v) (x := x) (y := y)
  rw [hrm] at hrelm
  rw [hlm] at hrelm
  generalize linkAt T N v = K at *
  generalize linkAt (mir T) N v = M at *
  generalize (ringAt T N v).length = r at *
  have ht0 : innerAt T N v = false → t = 0 := by
    intro hi
    rw [hi] at hlen
    simp only [Bool.false_eq_true, if_false] at hlen
    cases t with
    | zero => rfl
    | succ t =>
      exfalso
      have hx : M[t + 1]? = some (M[t + 1]'(by omega)) := List.getElem?_eq_getElem (by omega)
      have hy : M[t]? = some (M[t]'(by omega)) := List.getElem?_eq_getElem (by omega)
      have := hrelm t (by omega) _ _ hy (by rw [Nat.mod_eq_of_lt (by omega)]; exact hx)
      rw [rel_mir] at this
      obtain ⟨j, hj, e⟩ := hpos _ _ this
      rw [hx, List.getElem?_eq_getElem (by omega)] at ht
      rw [List.getElem?_eq_getElem (by omega)] at e
      have e2 := (List.getElem_inj hnd).1 ((Option.some.inj e).trans (Option.some.inj ht))
      omega
  refine ⟨ht0, fun i => ?_⟩
  induction i with
  | zero => intro _; rw [Nat.add_zero, Nat.mod_eq_of_lt htl, Nat.sub_zero]; exact ht
  | succ i ih =>
    intro hi
    have ih := ih (by omega)
    have hml : (t + i) % K.length < M.length := by rw [hlm]; exact Nat.mod_lt _ (by omega)
    have hml2 : (t + (i + 1)) % K.length < M.length := by rw [hlm]; exact Nat.mod_lt _ (by omega)
    have hmr : (t + i) % K.length < r := by
      cases hin : innerAt T N v with
      | true => rw [hin] at hlen; simp only [if_true] at hlen; omega
      | false =>
        have := ht0 hin
        subst this
        rw [hin] at hlen
        simp only [Bool.false_eq_true, if_false] at hlen
        rw [Nat.zero_add, Nat.mod_eq_of_lt (by omega)]
        omega
    have hsucc : ((t + i) % K.length + 1) % K.length = (t + (i + 1)) % K.length := by rw [Nat.mod_add_mod, Nat.add_assoc]
    have h1 := hrelm _ hmr _ _ (List.getElem?_eq_getElem hml) (by rw [hsucc]; exact List.getElem?_eq_getElem hml2)
    rw [rel_mir] at h1
    have hk1 : K.length - 1 - (i + 1) + 1 = K.length - 1 - i := by omega
    have hrk : K.length - 1 - (i + 1) < r := by
      cases hin : innerAt T N v with
      | true => rw [hin] at hlen; simp only [if_true] at hlen; omega
      | false => rw [hin] at hlen; simp only [Bool.false_eq_true, if_false] at hlen; omega
    have h2 := hrel _ hrk _ _ (List.getElem?_eq_getElem (by omega)) (by rw [hk1, Nat.mod_eq_of_lt (by omega)]; exact List.getElem?_eq_getElem (by omega))
    rw [List.getElem?_eq_getElem hml, List.getElem?_eq_getElem (by omega)] at ih
    rw [Option.some.inj ih] at h1
    rw [← rel_mir] at h1 h2
    have := rel_fun h.mir h1 h2
    rw [List.getElem?_eq_getElem hml2, List.getElem?_eq_getElem (by omega), this]
end
end Go.Mesh

namespace Go.Proofs.Ytpbdcppaiafbgaa
open Go Go.RowKit Go.Words Go.Mesh

theorem tabled_tab {w w' : World} {N : Int} {T : List T3} {e : Ending} (h : Tabled w N T e w') : ∃ pv B' N' T', e = .returned pv ∧ Surf N' T' ∧ TabN w' B' pv N' T' ∧ Below w.heap.size w w' ∧ ((pv = .pointer none ∧ N' = 0 ∧ T' = [] ∧ ¬ (Small N T ∧ Surf N T)) ∨ (∃ g, pv = .pointer (some g) ∧ N' = N ∧ T' = T ∧ Small N T)) := by
  obtain ⟨⟨pv, B', rfl, h1⟩, hb⟩ := h
  rcases h1 with ⟨h1, h2, h3⟩ | ⟨h1, rfl⟩
  · refine ⟨pv, B', N, T, rfl, h2, .inl h3, hb, .inr ?_⟩
    obtain ⟨g, _, _, _, _, _, rfl, _⟩ := h3
    exact ⟨_, rfl, rfl, rfl, h1⟩
  · exact ⟨_, 0, 0, [], rfl, surf_nil, .inr ⟨rfl, rfl, rfl, Nat.zero_le _⟩, hb, .inl ⟨rfl, rfl, rfl, h1⟩⟩
end Go.Proofs.Ytpbdcppaiafbgaa

namespace Go.Mesh
/-- From corner to corner around a vertex. -/
theorem Surf.turns {N : Int} {T : List T3} (h : Surf N T) {v : Int} {i : Nat} (hi : i < (ringAt T N v).length) :
    ((i + 1 < (ringAt T N v).length ∨ innerAt T N v = true) → ∃ x, opp T (nx (ringAt T N v)[i]) = some x ∧ x < 3 * T.length ∧ (ringAt T N v)[(i + 1) % (ringAt T N v).length]? = some (nx x)) ∧
    (¬ (i + 1 < (ringAt T N v).length) → innerAt T N v = false → opp T (nx (ringAt T N v)[i]) = none) := by
  rcases h.ring_or v with ⟨h1, _, _⟩ | ⟨hl, hv, hr⟩
  · rw [h1] at hi; simp at hi
  obtain ⟨b, hrun⟩ := hr.run
  have key : ∀ (d j : Nat), aft T (ringAt T N v)[i] = some d → (ringAt T N v)[j]? = some d → ∃ x, opp T (nx (ringAt T N v)[i]) = some x ∧ x < 3 * T.length ∧ (ringAt T N v)[j]? = some (nx x) := by
    intro d j hd hj
    unfold aft at hd
    obtain ⟨x, hx, rfl⟩ := Option.map_eq_some_iff.1 hd
    exact ⟨x, hx, (h.opp_iff.1 hx).1, hj⟩
  have hlast : ¬ (i + 1 < (ringAt T N v).length) → (ringAt T N v)[(ringAt T N v).length - 1]'(by omega) = (ringAt T N v)[i] := fun h9 => by congr 1; omega
  refine ⟨fun h9 => ?_, fun h9 h8 => ?_⟩
  · by_cases h7 : i + 1 < (ringAt T N v).length
    · rw [Nat.mod_eq_of_lt h7]
      exact key _ _ (hrun.steps i h7) (List.getElem?_eq_getElem h7)
    · have h6 := h9.resolve_left h7
      have := hr.turn hl h6
      rw [hlast h7] at this
      rw [show i + 1 = (ringAt T N v).length by omega, Nat.mod_self]
      exact key _ _ this (List.getElem?_eq_getElem hl)
  · have := (hr.last hl).2 h8
    rw [hlast h9] at this
    unfold aft at this
    simpa using this
theorem Surf.turns0 {N : Int} {T : List T3} (h : Surf N T) {v : Int} (hl : 0 < (ringAt T N v).length) : (opp T (pv (ringAt T N v)[0])).isSome = innerAt T N v := by
  rcases h.ring_or v with ⟨h1, _, _⟩ | ⟨_, hv, hr⟩
  · rw [h1] at hl; simp at hl
  have := hr.head hl
  unfold bef at this
  cases hi : innerAt T N v with
  | true =>
    rw [hi] at this
    cases ho : opp T (pv (ringAt T N v)[0]) with
    | some x => rfl
    | none => rw [ho] at this; simp at this
  | false =>
    rw [hi] at this
    have := this.2 rfl
    cases ho : opp T (pv (ringAt T N v)[0]) with
    | some x => rw [ho] at this; simp at this
    | none => rfl
end Go.Mesh
namespace Go.Proofs.Ytpbdcppaiafbgaa
open Go Go.RowKit Go.Words Go.Mesh

theorem tabV_next {w : World} {B : Nat} {tv : Value} {N : Int} {T : List T3} (h : TabN w B tv N T) {c : Nat} (hc : c < 3 * T.length) : Calls Try.prog 46 #[tv, .int .i64 (c : Int)] w fun e w' => e = .returned (.int .i64 (nx c : Int)) ∧ w' = w := by
  obtain ⟨g, vt, gm, vf, m, F, rfl, h8, _⟩ := h.tab (fun h9 => by rw [h9] at hc; simp at hc)
  have := next_calls h8 (c : Int)
  rw [tNext_at hc] at this
  exact this
theorem tabV_prev {w : World} {B : Nat} {tv : Value} {N : Int} {T : List T3} (h : TabN w B tv N T) {c : Nat} (hc : c < 3 * T.length) : Calls Try.prog 47 #[tv, .int .i64 (c : Int)] w fun e w' => e = .returned (.int .i64 (pv c : Int)) ∧ w' = w := by
  obtain ⟨g, vt, gm, vf, m, F, rfl, h8, _⟩ := h.tab (fun h9 => by rw [h9] at hc; simp at hc)
  have := prev_calls h8 (c : Int)
  rw [tPrev_at hc] at this
  exact this
theorem tabV_vertex {w : World} {B : Nat} {tv : Value} {N : Int} {T : List T3} (h : TabN w B tv N T) {c : Nat} (hc : c < 3 * T.length) : Calls Try.prog 31 #[tv, .int .i64 (c : Int)] w fun e w' => e = .returned (.int .i64 (Mesh.vt T c)) ∧ w' = w := by
  obtain ⟨g, vt, gm, vf, m, F, rfl, h8, _⟩ := h.tab (fun h9 => by rw [h9] at hc; simp at hc)
  have := vertex_calls h8 (c : Int)
  rw [tVert_at hc] at this
  exact this
theorem tab_opp {w : World} {B : Nat} {tv : Value} {N : Int} {T : List T3} (h : TabN w B tv N T) (hs : Surf N T) {c : Nat} (hc : c < 3 * T.length) : Calls Try.prog 40 #[tv, .int .i64 (c : Int)] w fun e w' => e = .returned (.int .i64 (oi (opp T c))) ∧ Below w.heap.size w w' := by
  have := opp_calls (h.tab (fun h9 => by rw [h9] at hc; simp at hc)) hs (c : Int)
  rw [tOpp_at hc] at this
  exact this

end Go.Proofs.Ytpbdcppaiafbgaa

namespace Go.Proofs.Ytpbdcppaiafbgaa
open Go Go.RowKit Go.Words Go.Mesh

/-- A slice of what the call owns, that is not empty. -/
theorem own_addr {w : World} {base : Nat} {e : TypeId} {size n cap : Nat} {A : Option Addr} {xs : List Value} (h : w.ownsRow base e size (.slice A n cap) n xs) (hn : 0 < n) : ∃ g, A = some ⟨g, 0, none⟩ := by
  obtain ⟨m, rfl⟩ : ∃ m, n = m + 1 := ⟨n - 1, by omega⟩
  obtain ⟨g', c', h8⟩ := ownsRow_succ h
  injection h8 with h8
  exact ⟨_, h8⟩
theorem inner_head {N : Int} {T : List T3} (hs : Surf N T) {v : Int} (hl : 0 < (ringAt T N v).length) : ((dirc T (Mesh.vt T (nx (ringAt T N v)[0])) v).map (· / 3)).isSome = innerAt T N v := by
  rcases hs.ring_or v with ⟨h1, _, _⟩ | ⟨_, hv, hr⟩
  · rw [h1] at hl; simp at hl
  have hm := (hr.mem _).1 (List.getElem_mem hl)
  have h2 := hs.dirc_bef (ringAt T N v)[0]
  rw [hm.2] at h2
  rw [h2]
  have h3 := hr.head hl
  cases hb : bef T (ringAt T N v)[0] with
  | none => rw [h3.1 hb]; rfl
  | some d =>
    cases hi : innerAt T N v with
    | true => rfl
    | false => rw [h3.2 hi] at hb; cases hb
end Go.Proofs.Ytpbdcppaiafbgaa

namespace Go.Proofs.Ytpbdcppaiafbgaa
open Go Go.RowKit Go.Words Go.Mesh

theorem linkAt_nil (v : Int) : linkAt [] 0 v = [] := by unfold linkAt; rw [ringAt_nil]; rfl
theorem innerAt_nil (v : Int) : innerAt [] 0 v = false := by unfold innerAt; rw [if_neg (by omega)]
theorem near_nil (v w : Int) : near [] v w = false := rfl
end Go.Proofs.Ytpbdcppaiafbgaa

namespace Go.Proofs.Ytpbdcppaiafbgaa
open Go Go.RowKit Go.Words Go.Mesh

theorem infoTri : (Try.prog.info? 43).map (fun i => (i.zero, i.size, i.bytes)) = some (some (.agg #[.int .i64 0, .int .i64 0, .int .i64 0]), 3, 24) := by kernel_rfl
theorem triVals_len : ∀ T : List T3, (triVals T).length = T.length * 3
  | [] => rfl
  | _ :: T => by simp only [triVals, List.length_cons, triVals_len T]; omega
theorem triVals_snoc : ∀ (T : List T3) (t : T3), triVals (T ++ [t]) = triVals T ++ [.int .i64 t.1, .int .i64 t.2.1, .int .i64 t.2.2]
  | [], _ => rfl
  | x :: T, t => by simp only [List.cons_append, triVals, triVals_snoc T t]
theorem sl_own_tris {w : World} {base : Nat} {v : Value} {T : List T3} (h : w.ownsRow base 43 3 v T.length (triVals T)) : Sl 3 RTri w w.heap.size v T :=
  Sl.of_own h fun i a hi => (triVals_at T i a hi).2
end Go.Proofs.Ytpbdcppaiafbgaa
