/- What cut.Along tells, as plain facts; the tetrahedron cut along two edges. -/
import Derived.Test.YtpbdcppaiafbgaaGreatIA
import Derived.Test.YtpbdcppaiafbgaaGreatSG
import Derived.Test.YtpbdcppaiafbgaaGreatHP
import Derived.Test.YtpbdcppaiafbgaaGreatTS
namespace Go.Mesh
def Clean (T : List T3) (l : List (Int × Int)) : Prop := ∀ i (h : i < l.length), addC T (l.take i) l[i] = 0
theorem addC_zero {T : List T3} {L : List (Int × Int)} {e : Int × Int} : addC T L e = 0 ↔ ¬ oi (facing T e) < 0 ∧ ¬ oi (facing T (e.2, e.1)) < 0 ∧ nm e ∉ L.map nm := by
  unfold addC
  by_cases h1 : oi (facing T e) < 0 <;> by_cases h2 : oi (facing T (e.2, e.1)) < 0 <;> by_cases h3 : nm e ∈ L.map nm <;> simp [h1, h2, h3]
theorem clean_good {T : List T3} {l : List (Int × Int)} (h : Clean T l) : Good T l where
  two := fun e he => by
    obtain ⟨i, hi, rfl⟩ := List.getElem_of_mem he
    obtain ⟨h1, h2, _⟩ := addC_zero.1 (h i hi)
    exact ⟨oi_none h1, oi_none h2⟩
  once := by
    refine List.pairwise_iff_getElem.2 fun i j hi hj hij => ?_
    rw [List.length_map] at hi hj
    obtain ⟨_, _, h3⟩ := addC_zero.1 (h j hj)
    intro e
    rw [List.getElem_map, List.getElem_map] at e
    refine h3 (List.mem_map.2 ⟨l[i], ?_, e⟩)
    exact List.mem_take_iff_getElem.2 ⟨i, by omega, rfl⟩
def AlongC (N : Int) (T : List T3) (l : List (Int × Int)) (c : Int) : Prop :=
  (¬ Surf N T ∧ c = 11) ∨ (Surf N T ∧ ∃ k, ∃ h : k < l.length, (∀ i (h' : i < l.length), i < k → addC T (l.take i) l[i] = 0) ∧ addC T (l.take k) l[k] = c ∧ c ≠ 0) ∨
    (Surf N T ∧ Clean T l ∧ ((l.any (idleE N T l) = true ∧ c = 14) ∨ (l.any (idleE N T l) = false ∧ 4096 < (newO N T (l.map nm)).length ∧ c = 7) ∨ (l.any (idleE N T l) = false ∧ (newO N T (l.map nm)).length ≤ 4096 ∧ c = 0)))
noncomputable def pairsL (N : Int) (T : List T3) (l : List (Int × Int)) (Es : List (Int × Int)) : List P4 := (Es.filter fun e => decide (e ∈ l.map nm)).map (pairE T (newX N T (l.map nm)))
theorem good_cut {T : List T3} {l : List (Int × Int)} (g : Good T l) {e : Int × Int} (he : e ∈ l.map nm) : (∃ c, facing T e = some c) ∧ ∃ d, facing T (e.2, e.1) = some d := by
  obtain ⟨e0, h0, rfl⟩ := List.mem_map.1 he
  obtain ⟨h1, h2⟩ := g.two e0 h0
  obtain ⟨a, b⟩ := e0
  unfold nm
  simp only [] at h1 h2 ⊢
  rcases Int.le_total a b with h | h
  · rw [Int.min_eq_left h, Int.max_eq_right h]; exact ⟨h1, h2⟩
  · rw [Int.min_eq_right h, Int.max_eq_left h]; exact ⟨h2, h1⟩
theorem pairs_step {N : Int} {T : List T3} {l Es : List (Int × Int)} {k : Nat} (hk : k < Es.length) : pairsL N T l (Es.take (k + 1)) = if Es[k] ∈ l.map nm then pairsL N T l (Es.take k) ++ [pairE T (newX N T (l.map nm)) Es[k]] else pairsL N T l (Es.take k) := by
  unfold pairsL
  rw [List.take_succ_eq_append_getElem hk, List.filter_append, List.map_append]
  by_cases h : Es[k] ∈ l.map nm
  · rw [if_pos h, List.filter_cons_of_pos (by simpa using h)]; rfl
  · rw [if_neg h, List.filter_cons_of_neg (by simpa using h)]; simp
theorem edges_few {T : List T3} {Es : List (Int × Int)} (h : EdgesIs T Es) : Es.length ≤ 3 * T.length := by
  have hn : Es.Nodup := h.1.imp fun {a b} hab e => by subst e; unfold ltE at hab; omega
  have := nodup_len hn (m := (List.range (3 * T.length)).map (ek T)) fun e he => by
    obtain ⟨c, h1, h2⟩ := (h.2 e).1 he
    exact List.mem_map.2 ⟨c, List.mem_range.2 h1, h2.symm⟩
  rwa [List.length_map, List.length_range] at this
section
variable {N : Int} {T : List T3} {l Es : List (Int × Int)}
theorem nm_nm (e : Int × Int) : nm (nm e) = nm e := by
  unfold nm
  exact Prod.ext (by simp only []; omega) (by simp only []; omega)
theorem ek_eg (T : List T3) (c : Nat) : ek T (nx c) = nm (eg T c) := by
  unfold ek eg nm
  rw [nx_nx]
theorem AlongC.zero (h : AlongC N T l 0) : Surf N T ∧ Clean T l ∧ l.any (idleE N T l) = false ∧ (newO N T (l.map nm)).length ≤ 4096 := by
  rcases h with ⟨_, h⟩ | ⟨_, _, _, _, _, h⟩ | ⟨h1, h2, ⟨_, h⟩ | ⟨_, _, h⟩ | ⟨h3, h4, _⟩⟩
  · omega
  · exact absurd rfl h
  · omega
  · omega
  · exact ⟨h1, h2, h3, h4⟩
theorem AlongC.is {c : Int} (h : AlongC N T l c) (hs : Surf N T) (hc : Clean T l) (hi : l.any (idleE N T l) = false) (hf : (newO N T (l.map nm)).length ≤ 4096) : c = 0 := by
  rcases h with ⟨h, _⟩ | ⟨_, k, hk, _, h1, h2⟩ | ⟨_, _, ⟨h, _⟩ | ⟨_, h, _⟩ | ⟨_, _, h⟩⟩
  · exact absurd hs h
  · rw [hc k hk] at h1; exact absurd h1.symm h2
  · rw [hi] at h; cases h
  · omega
  · exact h
structure CutOk (N : Int) (T : List T3) (l Es : List (Int × Int)) : Prop where
  surf : Surf N T
  clean : Clean T l
  idle : l.any (idleE N T l) = false
  few : (newO N T (l.map nm)).length ≤ 4096
  edges : EdgesIs T Es
theorem CutOk.good (h : CutOk N T l Es) : Good T l := clean_good h.clean
theorem CutOk.parts (h : CutOk N T l Es) : Parts T (l.map nm) := parts_of h.surf h.good fun e he => by simpa using List.any_eq_false.1 h.idle e he
theorem CutOk.numb (h : CutOk N T l Es) : Numb N T (l.map nm) (newX N T (l.map nm)) (newO N T (l.map nm)) := Go.Mesh.numb h.surf
theorem CutOk.cut (h : CutOk N T l Es) : Surf ((newO N T (l.map nm)).length : Nat) (newX N T (l.map nm)) := h.numb.surf h.surf h.parts h.few
def toldE (l Es : List (Int × Int)) : List (Int × Int) := Es.filter fun e => decide (e ∈ l.map nm)
theorem mem_toldE {e : Int × Int} : e ∈ toldE l Es ↔ e ∈ Es ∧ e ∈ l.map nm := by unfold toldE; rw [List.mem_filter, decide_eq_true_eq]
theorem CutOk.mem (h : CutOk N T l Es) {e : Int × Int} (he : e ∈ l.map nm) : e ∈ Es := by
  obtain ⟨c, hc⟩ := (good_cut h.good he).1
  obtain ⟨h1, h2⟩ := facing_some hc
  obtain ⟨e0, _, rfl⟩ := List.mem_map.1 he
  exact (h.edges.2 _).2 ⟨nx c, nx_lt h1, by rw [ek_eg, h2, nm_nm]⟩
theorem told_nm {e : Int × Int} (he : e ∈ toldE l Es) : nm e = e := by
  obtain ⟨e0, _, rfl⟩ := List.mem_map.1 (mem_toldE.1 he).2
  exact nm_nm e0
theorem told_map (l Es : List (Int × Int)) : (toldE l Es).map nm = toldE l Es := by
  conv => rhs; rw [← List.map_id (toldE l Es)]
  exact List.map_congr_left fun e he => told_nm he
theorem CutOk.once (h : CutOk N T l Es) : (toldE l Es).Nodup := h.edges.nodup.sublist List.filter_sublist
theorem CutOk.told (h : CutOk N T l Es) : Told T (l.map nm) (toldE l Es) where
  two := fun e he => good_cut h.good (mem_toldE.1 he).2
  once := by rw [told_map]; exact h.once
  all := fun x => by rw [told_map, mem_toldE]; exact ⟨fun hx => ⟨h.mem hx, hx⟩, fun hx => hx.2⟩
theorem pairs_told (N : Int) (T : List T3) (l Es : List (Int × Int)) : pairsL N T l Es = (toldE l Es).map (pairE T (newX N T (l.map nm))) := rfl
theorem CutOk.toldLen (h : CutOk N T l Es) : (toldE l Es).length = l.length := by
  rw [← (List.length_map nm : (l.map nm).length = l.length)]
  exact same_len h.once h.good.once fun x => by rw [mem_toldE]; exact ⟨fun hx => hx.2, fun hx => ⟨h.mem hx, hx⟩⟩
theorem CutOk.len (h : CutOk N T l Es) : (pairsL N T l Es).length = l.length := by rw [pairs_told, List.length_map, h.toldLen]
end
def ct19 : List (Int × Int) := [(0, 1), (1, 2)]
theorem clean19 : Clean ex0 ct19 := fun i h => by
  have h2 : i < 2 := h
  match i, h2 with
  | 0, _ => exact (by decide +kernel : addC ex0 [] (0, 1) = 0)
  | 1, _ => exact (by decide +kernel : addC ex0 [(0, 1)] (1, 2) = 0)
theorem idle19 : ct19.any (idleE 4 ex0 ct19) = false := by decide +kernel
theorem newO19 : newO 4 ex0 (ct19.map nm) = [0, 1, 2, 3, 1] := by
  have g := clean_good clean19
  have h0 := exH_more surf_ex0 g (k := 0) (by decide)
  have h1 := exH_more surf_ex0 g (k := 1) (by decide)
  have h2 := exH_more surf_ex0 g (k := 2) (by decide)
  have h3 := exH_more surf_ex0 g (k := 3) (by decide)
  rw [show moreV 4 ex0 ct19 ((0 : Nat) : Int) = 0 by decide +kernel] at h0
  rw [show moreV 4 ex0 ct19 ((1 : Nat) : Int) = 1 by decide +kernel] at h1
  rw [show moreV 4 ex0 ct19 ((2 : Nat) : Int) = 0 by decide +kernel] at h2
  rw [show moreV 4 ex0 ct19 ((3 : Nat) : Int) = 0 by decide +kernel] at h3
  have hz : (exH ex0 (ct19.map nm) 0).length = 0 := rfl
  rw [hz] at h0
  have e1 : exH ex0 (ct19.map nm) (0 + 1) = [] := List.length_eq_zero_iff.1 h0
  have e1l : (exH ex0 (ct19.map nm) 1).length = 0 := h0
  have s1 := exH_succ (T := ex0) (C := ct19.map nm) 1
  have s2 := exH_succ (T := ex0) (C := ct19.map nm) 2
  have s3 := exH_succ (T := ex0) (C := ct19.map nm) 3
  rw [show exH ex0 (ct19.map nm) 1 = [] from e1, List.nil_append] at s1
  have l1 : (exV ex0 (ct19.map nm) ((1 : Nat) : Int)).length = 1 := by rw [← s1]; omega
  obtain ⟨c, hc⟩ := List.length_eq_one_iff.1 l1
  have hv := (mem_exV.1 (show c ∈ exV ex0 (ct19.map nm) ((1 : Nat) : Int) by rw [hc]; exact List.mem_singleton.2 rfl)).2.1
  have l2 : exV ex0 (ct19.map nm) ((2 : Nat) : Int) = [] := List.length_eq_zero_iff.1 (by have := congrArg List.length s2; rw [List.length_append] at this; omega)
  have l3 : exV ex0 (ct19.map nm) ((3 : Nat) : Int) = [] := List.length_eq_zero_iff.1 (by have := congrArg List.length s3; rw [List.length_append] at this; omega)
  have e4 : exH ex0 (ct19.map nm) (3 + 1) = [c] := by rw [s3, l3, List.append_nil, show exH ex0 (ct19.map nm) 3 = exH ex0 (ct19.map nm) (2 + 1) from rfl, s2, l2, List.append_nil, show exH ex0 (ct19.map nm) 2 = exH ex0 (ct19.map nm) (1 + 1) from rfl, s1, hc]
  unfold newO
  rw [show (4 : Int).toNat = 3 + 1 from rfl, e4]
  show (List.range 4).map (fun v : Nat => (v : Int)) ++ [vt ex0 c] = _
  rw [hv]
  rfl
theorem cut19 {c : Int} (h : AlongC 4 ex0 ct19 c) : c = 0 := h.is surf_ex0 clean19 idle19 (by rw [newO19]; decide)
end Go.Mesh
