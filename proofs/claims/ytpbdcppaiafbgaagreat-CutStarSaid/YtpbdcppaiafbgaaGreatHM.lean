/- Plain: why a cut along a link, along one edge, is refused; no program in sight. -/
import Derived.Test.YtpbdcppaiafbgaaGreatHL
import Derived.Test.YtpbdcppaiafbgaaGreatHH
namespace Go.Mesh
section
variable {N : Int} {T : List T3} {l Es : List (Int × Int)}
theorem newO_few (hs : Surf N T) (C : List (Int × Int)) (h : N + 3 * (T.length : Int) ≤ 4096) : (newO N T C).length ≤ 4096 := by
  have h1 := newO_len hs C
  have h2 := exH_few (T := T) (C := C) N.toNat
  omega
theorem loopE_get {lo : List Int} {i : Nat} (hi : i < (loopE lo).length) : (loopE lo)[i] ∈ loopE lo := List.getElem_mem hi
/-- A cut along an inner vertex's link is refused only where the link comes to the border. -/
theorem star_cut (hs : Surf N T) {v : Int} (hv : 0 ≤ v ∧ v < N) (hi : innerAt T N v = true) (hf : N + 3 * (T.length : Int) ≤ 4096) {c : Int} (h : AlongC N T (loopE (linkAt T N v)) c) : c = 0 ∨ c = 13 := by
  have hn := link_nodup hs hv
  have h3 : 3 ≤ (linkAt T N v).length := by
    rw [link_len hs hv, if_pos hi]
    exact inner_three hs hv hi
  rcases h with ⟨h, _⟩ | ⟨_, k, hk, _, h1, h2⟩ | ⟨_, _, ⟨h, _⟩ | ⟨_, h, _⟩ | ⟨_, _, h⟩⟩
  · exact absurd hs h
  · obtain ⟨a, ha, _, he⟩ := link_edge hs hv hi (loopE_get hk)
    have hfa : facing T (loopE (linkAt T N v))[k] = some a := hs.facing_iff.2 ⟨ha, he⟩
    have hon := loopE_once hn h3
    have hno : nm (loopE (linkAt T N v))[k] ∉ ((loopE (linkAt T N v)).take k).map nm := fun h9 => by
      rw [List.map_take] at h9
      obtain ⟨j, hj, he⟩ := List.mem_take_iff_getElem.1 h9
      have : j = k := (List.getElem_inj (h₀ := by omega) (h₁ := by rw [List.length_map]; exact hk) hon).1 (by rw [he, List.getElem_map])
      omega
    unfold addC at h1
    have hoi : ¬ oi (some a) < 0 := by show ¬ ((a : Int) < 0); omega
    rw [hfa, if_neg (fun h9 => hoi h9.1)] at h1
    by_cases h4 : oi (facing T ((loopE (linkAt T N v))[k].2, (loopE (linkAt T N v))[k].1)) < 0
    · rw [if_pos (.inr h4)] at h1; exact .inr h1.symm
    · rw [if_neg (fun h9 => h9.elim hoi h4), if_neg hno] at h1
      exact .inl h1.symm
  · exfalso
    obtain ⟨e, he, h1⟩ := List.any_eq_true.1 h
    rw [loopE_idle h3 e he] at h1
    cases h1
  · have := newO_few hs ((loopE (linkAt T N v)).map nm) hf
    omega
  · exact .inl h
/-- One edge, told once. -/
theorem one_cut (hs : Surf N T) (hf : N + 3 * (T.length : Int) ≤ 4096) {e : Int × Int} {c : Int} (h : AlongC N T [e] c) : c = if addC T [] e ≠ 0 then addC T [] e else if innerAt T N e.1 = true ∧ innerAt T N e.2 = true then 14 else 0 := by
  have hid : idleE N T [e] e = (innerAt T N e.1 && innerAt T N e.2) := by
    have h1 : ∀ x, endsC [e] x ≤ 1 := fun x => endsC_le [e] x
    unfold idleE
    rw [decide_eq_true (h1 _), decide_eq_true (h1 _), Bool.true_and, Bool.true_and]
  rcases h with ⟨h, _⟩ | ⟨_, k, hk, _, h1, h2⟩ | ⟨_, hc, h⟩
  · exact absurd hs h
  · have hk0 : k = 0 := by simp at hk; exact hk
    subst hk0
    have h1 : addC T [] e = c := h1
    rw [if_pos (by rw [h1]; exact h2), h1]
  · have h0 : addC T [] e = 0 := hc 0 (by simp)
    rw [if_neg (fun h9 => h9 h0)]
    rcases h with ⟨h, h1⟩ | ⟨_, h, _⟩ | ⟨h, _, h1⟩
    · rw [List.any_cons, List.any_nil, Bool.or_false, hid, Bool.and_eq_true] at h
      rw [if_pos h, h1]
    · have := newO_few hs ([e].map nm) hf
      omega
    · rw [List.any_cons, List.any_nil, Bool.or_false, hid] at h
      rw [if_neg (fun h9 => by rw [h9.1, h9.2] at h; cases h), h1]
/-- One edge, told twice. -/
theorem two_cut (hs : Surf N T) {e : Int × Int} {c : Int} (h : AlongC N T [e, (e.2, e.1)] c) : c = if addC T [] e ≠ 0 then addC T [] e else 9 := by
  have h2 : addC T [] e = 0 → addC T [e] (e.2, e.1) = 9 := fun h0 => by
    obtain ⟨a, b, _⟩ := addC_zero.1 h0
    unfold addC
    rw [if_neg (fun h9 => b h9.1), if_neg (fun h9 => h9.elim b a), if_pos]
    show nm (e.2, e.1) ∈ [nm e]
    rw [nm_swap]
    exact List.mem_singleton.2 rfl
  rcases h with ⟨h, _⟩ | ⟨_, k, hk, h3, h1, h4⟩ | ⟨_, hc, _⟩
  · exact absurd hs h
  · have hk2 : k < 2 := hk
    match k, hk2 with
    | 0, _ =>
      have h1 : addC T [] e = c := h1
      rw [if_pos (by rw [h1]; exact h4), h1]
    | 1, _ =>
      have h0 : addC T [] e = 0 := h3 0 (by simp) (by omega)
      have h1 : addC T [e] (e.2, e.1) = c := h1
      rw [if_neg (fun h9 => h9 h0), ← h1, h2 h0]
  · have h0 : addC T [] e = 0 := hc 0 (by simp)
    have h1 : addC T [e] (e.2, e.1) = 0 := hc 1 (by simp)
    rw [h2 h0] at h1
    cases h1
theorem addC_eg (hs : Surf N T) {c : Nat} (hc : c < 3 * T.length) : addC T [] (eg T c) = if opp T c = none then 13 else 0 := by
  have h1 : facing T (eg T c) = some c := hs.facing_eg hc
  have hoi : ¬ oi (some c) < 0 := by show ¬ ((c : Int) < 0); omega
  have h2 : facing T ((eg T c).2, (eg T c).1) = opp T c := rfl
  unfold addC
  rw [h1, h2, if_neg (fun h9 => hoi h9.1)]
  cases opp T c with
  | none => rw [if_pos (.inr (by decide)), if_pos rfl]
  | some d =>
    have hoi2 : ¬ oi (some d) < 0 := by show ¬ ((d : Int) < 0); omega
    rw [if_neg (fun h9 => h9.elim hoi hoi2), if_neg (show nm (eg T c) ∉ List.map nm [] from List.not_mem_nil), if_neg (by simp)]
/-- There is no edge from a vertex to itself. -/
theorem addC_self (hs : Surf N T) (x : Int) : addC T [] (x, x) = 8 := by
  have h1 : facing T (x, x) = none := facing_none.2 fun c hc h => hs.loop3 hc ((congrArg Prod.fst h).trans (congrArg Prod.snd h).symm)
  unfold addC
  rw [h1, if_pos ⟨by decide, by decide⟩]
end
end Go.Mesh
