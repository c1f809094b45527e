/- Border loops: plain laws. -/
import Derived.Test.YtpbdcppaiafbgaaBM
namespace Go.Mesh
theorem nodup_sub {α : Type} [DecidableEq α] : ∀ {l m : List α}, l.Nodup → l ⊆ m → l.length ≤ m.length
  | [], _, _, _ => Nat.zero_le _
  | a :: l, m, hn, hs => by
    have hm : a ∈ m := hs (List.mem_cons_self ..)
    have h1 := nodup_sub (l := l) (m := m.erase a) (List.nodup_cons.1 hn).2 fun x hx => by
      have hne : x ≠ a := fun e => (List.nodup_cons.1 hn).1 (e ▸ hx)
      exact (List.mem_erase_of_ne hne).2 (hs (List.mem_cons_of_mem _ hx))
    rw [List.length_erase_of_mem hm] at h1
    have := List.length_pos_of_mem hm
    rw [List.length_cons]
    omega
section
variable {N : Int} {T : List T3}
/-- The link of a border vertex begins with the vertex ahead on the border, and ends with the one behind. -/
theorem Surf.link_border (h : Surf N T) {v u : Int} (ha : aftV T v = some u) :
    ∃ a, 2 ≤ (linkAt T N v).length ∧ (linkAt T N v)[0]? = some a ∧ (linkAt T N v)[(linkAt T N v).length - 1]? = some u ∧ afI T a = v ∧ a ≠ u := by
  have hv := (h.aftV_rng ha).1
  have hi : innerAt T N v = false := by rw [h.aftV_inner hv, ha]; rfl
  obtain ⟨hl, hr⟩ := h.ring_in hv
  have h1 := (hr.last hl).2 hi
  have h2 := (hr.head hl).2 hi
  have m1 := (hr.mem _).1 (List.getElem_mem (l := ringAt T N v) (n := (ringAt T N v).length - 1) (by omega))
  have m2 := (hr.mem _).1 (List.getElem_mem hl)
  have e1 : aftV T v = some (vt T (pv (ringAt T N v)[(ringAt T N v).length - 1])) :=
    h.aftV_iff.2 ⟨_, nx_lt m1.1, aft_none.1 h1, by rw [pv_nx]; exact m1.2, by rw [nx_nx]⟩
  have e2 : aftV T (vt T (nx (ringAt T N v)[0])) = some v :=
    h.aftV_iff.2 ⟨_, pv_lt m2.1, bef_none.1 h2, by rw [pv_pv], by rw [nx_pv]; exact m2.2⟩
  have hlen := link_len h hv
  rw [hi] at hlen
  have hlen2 : (linkAt T N v).length = (ringAt T N v).length + 1 := by simpa using hlen
  have k0 : (linkAt T N v)[0]? = some (vt T (nx (ringAt T N v)[0])) := (link_next h hv (i := 0) hl).1
  have k1 : (linkAt T N v)[(linkAt T N v).length - 1]? = some u := by
    have h9 := (link_next h hv (i := (ringAt T N v).length - 1) (by omega)).2
    rw [hlen2, Nat.mod_eq_of_lt (by omega)] at h9
    rw [hlen2, ← ha, e1, ← h9]
    congr 1
    omega
  refine ⟨_, by omega, k0, k1, ?_, ?_⟩
  · unfold afI; rw [e2]; rfl
  · intro e
    obtain ⟨g0, e0⟩ := List.getElem?_eq_some_iff.1 k0
    obtain ⟨g1, e1⟩ := List.getElem?_eq_some_iff.1 k1
    have := (List.getElem_inj (link_nodup h hv) (h₀ := g0) (h₁ := g1)).1 (by rw [e0, e1]; exact e)
    omega
theorem BLoop.next {v : Int} {L : List Nat} (hL : BLoop T N v L) {c d : Nat} (hc : c ∈ L) (hd : aftV T (c : Int) = some (d : Int)) : d ∈ L := by
  obtain ⟨i, hi, rfl⟩ := List.getElem_of_mem hc
  rcases Nat.lt_or_ge (i + 1) L.length with h1 | h1
  · have := hL.step i _ _ (List.getElem?_eq_getElem hi) (List.getElem?_eq_getElem h1)
    rw [hd] at this
    have h2 : d = L[i + 1] := by have := Option.some.inj this; omega
    rw [h2]; exact List.getElem_mem _
  · have e : i = L.length - 1 := by omega
    subst e
    have := hL.last _ (List.getElem?_eq_getElem hi)
    rw [hd] at this
    have h2 : d = v.toNat := by have := Option.some.inj this; omega
    rw [h2]; exact List.mem_of_getElem? hL.head
/-- What goes on with a step has all of a loop, if one of it has it. -/
theorem BLoop.closed {v : Int} {L : List Nat} (hL : BLoop T N v L) (h : Surf N T) (P : Nat → Prop) (hP : ∀ c d : Nat, P c → aftV T (c : Int) = some (d : Int) → P d) {c : Nat} (hc : c ∈ L) (h0 : P c) : ∀ x ∈ L, P x := by
  obtain ⟨j, hj, rfl⟩ := List.getElem_of_mem hc
  have up : ∀ k i (hi : i + k < L.length), P (L[i]'(by omega)) → P L[i + k] := by
    intro k
    induction k with
    | zero => intro i hi hp; exact hp
    | succ k ih =>
      intro i hi hp
      have := ih i (by omega) hp
      exact hP _ _ this (hL.step (i + k) _ _ (List.getElem?_eq_getElem (by omega)) (List.getElem?_eq_getElem hi))
  have hz : P (L[L.length - 1]'(by omega)) := by
    have := up (L.length - 1 - j) j (by omega) h0
    have e : j + (L.length - 1 - j) = L.length - 1 := by omega
    simpa only [e] using this
  have hl := hL.last _ (List.getElem?_eq_getElem (by omega))
  have hr := (h.aftV_rng hl).2
  have hv : P v.toNat := hP _ _ hz (by rw [hl, Int.toNat_of_nonneg hr.1])
  have hh : P (L[0]'hL.ne) := by
    have := hL.head
    rw [List.getElem?_eq_getElem hL.ne] at this
    rw [Option.some.inj this]; exact hv
  intro x hx
  obtain ⟨i, hi, rfl⟩ := List.getElem_of_mem hx
  have := up i 0 (by omega) hh
  simpa using this
theorem Surf.loop_mem_on (h : Surf N T) {v : Int} {x : Nat} (hx : x ∈ loopAt T N v) : (∃ a, aftV T v = some a) ∧ ∃ b, aftV T (x : Int) = some b := by
  cases ha : aftV T v with
  | none => rw [loopAt_none ha] at hx; cases hx
  | some a =>
    have hL := h.loop_is ha
    refine ⟨⟨a, rfl⟩, ?_⟩
    have hr := (h.aftV_rng ha).1
    exact hL.closed h (fun c => ∃ b, aftV T (c : Int) = some b) (fun c d _ hd => h.aftV_on hd) (List.mem_of_getElem? hL.head) ⟨a, by rw [Int.toNat_of_nonneg hr.1, ha]⟩ x hx
/-- Who is on the same loop has the same loop. -/
theorem Surf.loop_same (h : Surf N T) {v : Int} {x : Nat} (hx : x ∈ loopAt T N v) (y : Nat) : y ∈ loopAt T N (x : Int) ↔ y ∈ loopAt T N v := by
  obtain ⟨⟨a, ha⟩, b, hb⟩ := h.loop_mem_on hx
  have hL := h.loop_is ha
  have hM := h.loop_is hb
  have hxM : x ∈ loopAt T N (x : Int) := by have := List.mem_of_getElem? hM.head; simpa using this
  exact ⟨fun hy => hM.closed h (· ∈ loopAt T N v) (fun c d hc hd => hL.next hc hd) hxM hx y hy, fun hy => hL.closed h (· ∈ loopAt T N (x : Int)) (fun c d hc hd => hM.next hc hd) hx hxM y hy⟩
theorem Surf.loop_self (h : Surf N T) {x : Nat} {b : Int} (hb : aftV T (x : Int) = some b) : x ∈ loopAt T N (x : Int) := by
  have := List.mem_of_getElem? (h.loop_is hb).head
  simpa using this
theorem Surf.loop_symm (h : Surf N T) {x u : Nat} (hx : x ∈ loopAt T N (u : Int)) : u ∈ loopAt T N (x : Int) := by
  obtain ⟨⟨a, ha⟩, _⟩ := h.loop_mem_on hx
  exact (h.loop_same hx u).2 (h.loop_self ha)
theorem lps_succ (T : List T3) (N : Int) (k : Nat) : lps T N (k + 1) = lps T N k ++ (if (k ∈ (lps T N k).flatten) ∨ loopAt T N k = [] then [] else [loopAt T N k]) := rfl
theorem Surf.lps_mem (h : Surf N T) (x : Nat) : ∀ k, x ∈ (lps T N k).flatten ↔ ∃ u : Nat, u < k ∧ x ∈ loopAt T N (u : Int)
  | 0 => by simp [lps]
  | k + 1 => by
    rw [lps_succ, List.flatten_append, List.mem_append, h.lps_mem x k]
    have hk := h.lps_mem k k
    constructor
    · rintro (⟨u, hu, hx⟩ | hx)
      · exact ⟨u, by omega, hx⟩
      · split at hx
        · cases hx
        · exact ⟨k, by omega, by simpa using hx⟩
    · rintro ⟨u, hu, hx⟩
      rcases Nat.lt_or_ge u k with h1 | h1
      · exact .inl ⟨u, h1, hx⟩
      · obtain rfl : u = k := by omega
        by_cases hin : u ∈ (lps T N u).flatten
        · obtain ⟨u2, h2, h3⟩ := hk.1 hin
          exact .inl ⟨u2, h2, (h.loop_same h3 x).1 hx⟩
        · right
          rw [if_neg]
          · simpa using hx
          · rintro (h4 | h4)
            · exact hin h4
            · rw [h4] at hx; cases hx
theorem Surf.lps_nodup (h : Surf N T) : ∀ k, (lps T N k).flatten.Nodup
  | 0 => by simp [lps]
  | k + 1 => by
    rw [lps_succ, List.flatten_append, List.nodup_append]
    refine ⟨h.lps_nodup k, ?_, ?_⟩
    · split
      · simp
      · rename_i hn
        cases ha : aftV T (k : Int) with
        | none => exact absurd (.inr (loopAt_none ha)) hn
        | some a => simpa using (h.loop_is ha).nodup
    · intro x hx y hy e
      subst e
      split at hy
      · cases hy
      · rename_i hn
        obtain ⟨u, hu, hxu⟩ := (h.lps_mem x k).1 hx
        have hyk : x ∈ loopAt T N (k : Int) := by simpa using hy
        have h1 : k ∈ loopAt T N (x : Int) := h.loop_symm hyk
        exact hn (.inl ((h.lps_mem k k).2 ⟨u, hu, (h.loop_same hxu k).1 h1⟩))
theorem Surf.lps_all (h : Surf N T) (x : Nat) : x ∈ (lps T N N.toNat).flatten ↔ ∃ b, aftV T (x : Int) = some b := by
  rw [h.lps_mem]
  constructor
  · rintro ⟨u, _, hx⟩
    exact (h.loop_mem_on hx).2
  · rintro ⟨b, hb⟩
    have := (h.aftV_rng hb).1
    exact ⟨x, by omega, h.loop_self hb⟩
theorem Surf.two_ne (h : Surf N T) {v a : Int} (ha : aftV T v = some a) : a ≠ v ∧ aftV T a ≠ some v := by
  obtain ⟨c, h1, h2, rfl, rfl⟩ := h.aftV_iff.1 ha
  refine ⟨h.loop3 h1, fun hb => ?_⟩
  obtain ⟨d, g1, g2, g3, g4⟩ := h.aftV_iff.1 hb
  have : opp T c = some d := h.opp_iff.2 ⟨g1, g4, g3⟩
  rw [h2] at this
  cases this
theorem Surf.loop_three (h : Surf N T) {v a : Int} (ha : aftV T v = some a) : 3 ≤ (loopAt T N v).length := by
  have hL := h.loop_is ha
  have h0 := hL.ne
  have hr := (h.aftV_rng ha).1
  obtain ⟨h1, h2⟩ := h.two_ne ha
  have hz : (((loopAt T N v)[0]'h0 : Nat) : Int) = v := by
    have := hL.head
    rw [List.getElem?_eq_getElem h0] at this
    have := Option.some.inj this
    omega
  rcases Nat.lt_or_ge 2 (loopAt T N v).length with h3 | h3
  · exact h3
  · exfalso
    rcases Nat.lt_or_ge 1 (loopAt T N v).length with h4 | h4
    · have h5 := hL.step 0 _ _ (List.getElem?_eq_getElem h0) (List.getElem?_eq_getElem h4)
      rw [hz, ha] at h5
      have h6 := hL.last _ (List.getElem?_eq_getElem (by omega))
      have h7 : (loopAt T N v)[(loopAt T N v).length - 1]'(by omega) = (loopAt T N v)[1] := by congr 1; omega
      rw [h7, ← Option.some.inj h5] at h6
      exact h2 h6
    · have h6 := hL.last _ (List.getElem?_eq_getElem (by omega))
      have h7 : (loopAt T N v)[(loopAt T N v).length - 1]'(by omega) = (loopAt T N v)[0] := by congr 1; omega
      rw [h7, hz, ha] at h6
      exact h1 (Option.some.inj h6)
theorem Surf.lps_each (h : Surf N T) : ∀ k, ∀ L ∈ lps T N k, 3 ≤ L.length ∧ ∃ u : Nat, u < k ∧ L = loopAt T N (u : Int) ∧ ∃ a, aftV T (u : Int) = some a
  | 0, L, hL => by simp [lps] at hL
  | k + 1, L, hL => by
    rw [lps_succ, List.mem_append] at hL
    rcases hL with hL | hL
    · obtain ⟨h1, u, h2, h3⟩ := h.lps_each k L hL
      exact ⟨h1, u, by omega, h3⟩
    · split at hL
      · cases hL
      · rename_i hn
        obtain rfl : L = loopAt T N (k : Int) := by simpa using hL
        cases ha : aftV T (k : Int) with
        | none => exact absurd (.inr (loopAt_none ha)) hn
        | some a => exact ⟨h.loop_three ha, k, by omega, rfl, a, ha⟩
theorem Surf.lps_lt (h : Surf N T) {L : List Nat} {k : Nat} (hL : L ∈ lps T N k) {x : Nat} (hx : x ∈ L) : (x : Int) < N := by
  obtain ⟨_, u, _, rfl, a, ha⟩ := h.lps_each k L hL
  exact (h.loop_is ha).lt x hx
theorem Surf.aft_dom (h : Surf N T) (x : Int) : x ∈ (bedges T).map (·.2) ↔ ∃ b, aftV T x = some b := by
  rw [List.mem_map]
  constructor
  · rintro ⟨e, he, rfl⟩
    obtain ⟨c, h1, h2, rfl⟩ := mem_bedges.1 he
    exact ⟨_, h.aftV_iff.2 ⟨c, h1, h2, rfl, rfl⟩⟩
  · rintro ⟨b, hb⟩
    obtain ⟨c, h1, h2, rfl, rfl⟩ := h.aftV_iff.1 hb
    exact ⟨_, mem_bedges.2 ⟨c, h1, h2, rfl⟩, rfl⟩
/-- All loops together have as many vertices as there are border edges. -/
theorem Surf.lps_total (h : Surf N T) : (lps T N N.toNat).flatten.length = (bedges T).length := by
  have h1 : (((lps T N N.toNat).flatten.map fun n : Nat => (n : Int))).Nodup := nodup_inj (h.lps_nodup _) fun a _ b _ e => by have : (a : Int) = (b : Int) := e; omega
  have h2 := (List.perm_ext_iff_of_nodup h1 h.bedges_nodup).2 fun x => by
    rw [h.aft_dom, List.mem_map]
    constructor
    · rintro ⟨n, hn, rfl⟩
      exact (h.lps_all n).1 hn
    · rintro ⟨b, hb⟩
      have hr := (h.aftV_rng hb).1
      exact ⟨x.toNat, (h.lps_all _).2 ⟨b, by rw [Int.toNat_of_nonneg hr.1]; exact hb⟩, Int.toNat_of_nonneg hr.1⟩
  have := h2.length_eq
  rw [List.length_map, List.length_map] at this
  exact this
theorem Surf.loop_len (h : Surf N T) (v : Int) : (loopAt T N v).length ≤ 3 * T.length := by
  cases ha : aftV T v with
  | none => rw [loopAt_none ha]; simp
  | some a =>
    have hL := h.loop_is ha
    have h1 : (((loopAt T N v).map fun n : Nat => (n : Int))).Nodup := nodup_inj hL.nodup fun a _ b _ e => by have : (a : Int) = (b : Int) := e; omega
    have h2 : ((loopAt T N v).map fun n : Nat => (n : Int)) ⊆ (bedges T).map (·.2) := by
      intro x hx
      obtain ⟨n, hn, rfl⟩ := List.mem_map.1 hx
      exact (h.aft_dom _).2 (h.loop_mem_on hn).2
    have h3 := nodup_sub h1 h2
    rw [List.length_map, List.length_map] at h3
    have := bord_len T
    unfold bedges at h3
    rw [List.length_map] at h3
    omega
/-- What the document's Loops tells: the loops whose first vertex is the least. -/
theorem Surf.lps_least (h : Surf N T) (k : Nat) : lps T N k = ((List.range k).filter fun v : Nat => decide (loopAt T N (v : Int) ≠ [] ∧ ∀ x ∈ loopAt T N (v : Int), v ≤ x)).map fun v : Nat => loopAt T N (v : Int) := by
  induction k with
  | zero => rfl
  | succ k ih =>
    rw [lps_succ, List.range_succ, List.filter_append, List.map_append, ← ih]
    congr 1
    have hiff : (k ∈ (lps T N k).flatten ∨ loopAt T N k = []) ↔ ¬ (loopAt T N (k : Int) ≠ [] ∧ ∀ x ∈ loopAt T N (k : Int), k ≤ x) := by
      rw [h.lps_mem]
      constructor
      · rintro (⟨u, hu, hk⟩ | hn) ⟨h1, h2⟩
        · have := h2 u (h.loop_symm hk)
          omega
        · exact h1 hn
      · intro hn
        by_cases h1 : loopAt T N (k : Int) = []
        · exact .inr h1
        · left
          apply Classical.byContradiction
          intro h2
          exact hn ⟨h1, fun x hx => by
            rcases Nat.lt_or_ge x k with h3 | h3
            · exact absurd ⟨x, h3, h.loop_symm hx⟩ h2
            · exact h3⟩
    by_cases hc : loopAt T N (k : Int) ≠ [] ∧ ∀ x ∈ loopAt T N (k : Int), k ≤ x
    · rw [if_neg (fun h9 => hiff.1 h9 hc)]
      have hd := decide_eq_true hc
      rw [List.filter_cons, hd]
      rfl
    · rw [if_pos (hiff.2 hc)]
      have hd := decide_eq_false hc
      rw [List.filter_cons, hd]
      rfl
theorem Surf.lps_step (h : Surf N T) (k : Nat) : lps T N (k + 1) = lps T N k ++ (if 0 < (loopAt T N (k : Int)).length ∧ ∀ x ∈ loopAt T N (k : Int), k ≤ x then [loopAt T N (k : Int)] else []) := by
  rw [h.lps_least (k + 1), h.lps_least k, List.range_succ, List.filter_append, List.map_append]
  congr 1
  have hiff : (loopAt T N (k : Int) ≠ [] ∧ ∀ x ∈ loopAt T N (k : Int), k ≤ x) ↔ (0 < (loopAt T N (k : Int)).length ∧ ∀ x ∈ loopAt T N (k : Int), k ≤ x) := by rw [List.length_pos_iff]
  by_cases hc : loopAt T N (k : Int) ≠ [] ∧ ∀ x ∈ loopAt T N (k : Int), k ≤ x
  · rw [if_pos (hiff.1 hc), List.filter_cons, decide_eq_true hc]; rfl
  · rw [if_neg (fun h9 => hc (hiff.2 h9)), List.filter_cons, decide_eq_false hc]; rfl
end
end Go.Mesh
namespace Go.Proofs.Ytpbdcppaiafbgaa
open Go Go.RowKit Go.Words Go.Mesh
theorem own_int_at {w : World} {base g n cap : Nat} {l : List Int} (h : w.ownsRow base 3 1 (.slice (some ⟨g, 0, none⟩) n cap) n (ivals l)) (hl : l.length = n) {i : Nat} (hi : i < l.length) :
    w.cell? ⟨g, i, none⟩ = some (.int .i64 l[i]) ∧ g < w.heap.size ∧ base ≤ g := by
  have hb := h.lt g rfl
  subst hl
  have hs := sl_ivals h
  obtain ⟨b, o, cs, h1, h2, h3, h4, h5⟩ := Sl.at_ hs (List.getElem?_eq_getElem hi)
  injection h1 with h1
  injection h1 with h1 h6
  subst h1; subst h6
  unfold RInt at h4
  subst h4
  refine ⟨?_, hb.2, hb.1⟩
  have := h5 0 _ rfl
  simpa using this
theorem own_cell {w : World} {base g n cap i : Nat} {e : TypeId} {u : Value} {xs : List Value} (h : w.ownsRow base e 1 (.slice (some ⟨g, 0, none⟩) n cap) n xs) (hi : xs[i]? = some u) : w.cell? ⟨g, i, none⟩ = some u ∧ base ≤ g ∧ g < w.heap.size := by
  rcases h.2 with ⟨h1, _⟩ | ⟨g', cap', cur, h1, hb, hg, _, _, _, hx⟩
  · cases h1
  · injection h1 with h1
    injection h1 with h1
    injection h1 with h1
    subst h1
    refine ⟨?_, hb, (Array.getElem?_eq_some_iff.1 hg).1⟩
    have hbk : Bk w g e cur.toList := by unfold Bk; rw [hg]
    rw [hbk.cell i]
    rw [← hx, List.getElem?_take] at hi
    split at hi
    · exact hi
    · cases hi
theorem own_kept {w w' : World} {base g n size : Nat} {v : Value} {e : TypeId} {xs : List Value} (h : w.ownsRow base e size v n xs) (hg : w.grownBy w' (some g)) (hlt : g < base) : w'.ownsRow base e size v n xs :=
  h.kept hg (by
    cases hv : v.ownBlock with
    | none => exact .inl rfl
    | some k => exact .inr (by intro e; cases e; have := (h.lt g hv).1; omega))
theorem OwnRows.kept {w w' : World} {base g : Nat} {r : Value} {Ls : List (List Nat)} (h : OwnRows w base r Ls) (hg : w.grownBy w' (some g)) (hlt : g < base) : OwnRows w' base r Ls := by
  obtain ⟨vs, h1, h2, h3⟩ := h
  exact ⟨vs, h1, own_kept h2 hg hlt, fun i v L e1 e2 => own_kept (h3 i v L e1 e2) hg hlt⟩
theorem OwnRows.at_ {w : World} {base : Nat} {A : Option Addr} {n cap : Nat} {Ls : List (List Nat)} (h : OwnRows w base (.slice A n cap) Ls) (hn : Ls.length = n) {i : Nat} (hi : i < Ls.length) :
    ∃ g v, A = some ⟨g, 0, none⟩ ∧ w.cell? ⟨g, i, none⟩ = some v ∧ base ≤ g ∧ g < w.heap.size ∧ w.ownsRow base 3 1 v Ls[i].length (nvals Ls[i]) := by
  obtain ⟨vs, h1, h2, h3⟩ := h
  subst hn
  obtain ⟨g, rfl⟩ := own_addr h2 (by omega)
  have hv : vs[i]? = some (vs[i]'(by omega)) := List.getElem?_eq_getElem (by omega)
  obtain ⟨c1, c2, c3⟩ := own_cell h2 hv
  exact ⟨g, _, rfl, c1, c2, c3, h3 i _ _ hv (List.getElem?_eq_getElem hi)⟩
theorem nvals_at {l : List Nat} {i : Nat} (h : i < l.length) : (nvals l)[i]? = some (.int .i64 (l[i] : Int)) := by unfold nvals; simp [h]
theorem grown_set {w w' : World} {g i : Nat} (h : w.grownBy w' (some g)) (u : Value) : w.grownBy (w'.setCell ⟨g, i, none⟩ u) (some g) :=
  ⟨h.os, h.tape, h.output, by have := h.size; simpa [World.setCell] using this, fun k hk hne => by
    rw [Below.heap_setCell _ _ _ _ (fun e => hne (by rw [e])), h.block k hk hne]⟩
end Go.Proofs.Ytpbdcppaiafbgaa
