/- Plain: a cut's pairs at the border; the same cut told otherwise; no program in sight. -/
import Derived.Test.YtpbdcppaiafbgaaGreatHK
import Derived.Test.YtpbdcppaiafbgaaGreatBM
namespace Go.Mesh
section
variable {N : Int} {T : List T3} {l Es : List (Int × Int)}
theorem CutOk.face (h : CutOk N T l Es) {e : Int × Int} (he : e ∈ toldE l Es) : (facing T e = some (faceE T e) ∧ faceE T e < 3 * T.length ∧ eg T (faceE T e) = e ∧ opp (newX N T (l.map nm)) (faceE T e) = none) ∧
    (facing T (e.2, e.1) = some (faceE T (e.2, e.1)) ∧ faceE T (e.2, e.1) < 3 * T.length ∧ eg T (faceE T (e.2, e.1)) = (e.2, e.1) ∧ opp (newX N T (l.map nm)) (faceE T (e.2, e.1)) = none) := by
  obtain ⟨f1, f2⟩ := h.told.face he
  obtain ⟨a1, a2⟩ := facing_some f1
  obtain ⟨b1, b2⟩ := facing_some f2
  have hm := (mem_toldE.1 he).2
  have hn := told_nm he
  refine ⟨⟨f1, a1, a2, (h.numb.bord h.surf h.parts a1).2 (.inr (by rw [a2, hn]; exact hm))⟩, f2, b1, b2, (h.numb.bord h.surf h.parts b1).2 (.inr ?_)⟩
  rw [b2, nm_swap]
  show nm e ∈ _
  rw [hn]
  exact hm
theorem CutOk.undo (h : CutOk N T l Es) : Undo N T (newO N T (l.map nm)).length (newX N T (l.map nm)) (edP (pairsL N T l Es)) fun k => (newO N T (l.map nm)).getD k.toNat 0 := Go.Mesh.undo h.numb h.surf h.told
theorem CutOk.pair (h : CutOk N T l Es) {i : Nat} {p : P4} (hi : (pairsL N T l Es)[i]? = some p) : ∃ (e : Int × Int) (c d : Nat), e ∈ toldE l Es ∧ p = (eg (newX N T (l.map nm)) c, eg (newX N T (l.map nm)) d) ∧ e.1 < e.2 ∧
    c < 3 * T.length ∧ d < 3 * T.length ∧ eg T c = e ∧ eg T d = (e.2, e.1) ∧ opp (newX N T (l.map nm)) c = none ∧ opp (newX N T (l.map nm)) d = none ∧ facing (newX N T (l.map nm)) p.1 = some c ∧ facing (newX N T (l.map nm)) p.2 = some d := by
  rw [pairs_told, List.getElem?_map, Option.map_eq_some_iff] at hi
  obtain ⟨e, he, rfl⟩ := hi
  have hm := List.mem_of_getElem? he
  obtain ⟨a, b⟩ := h.face hm
  have hlt : e.1 < e.2 := by
    have h1 := told_nm hm
    have h2 : e.1 ≠ e.2 := fun h9 => h.surf.loop3 a.2.1 (by
      have := a.2.2.1
      exact (congrArg Prod.fst this).trans (h9.trans (congrArg Prod.snd this).symm))
    have h3 : min e.1 e.2 = e.1 := congrArg Prod.fst h1
    omega
  refine ⟨e, faceE T e, faceE T (e.2, e.1), hm, rfl, hlt, a.2.1, b.2.1, a.2.2.1, b.2.2.1, a.2.2.2, b.2.2.2, ?_, ?_⟩
  · exact h.cut.facing_eg (by rw [h.numb.len]; exact a.2.1)
  · exact h.cut.facing_eg (by rw [h.numb.len]; exact b.2.1)
theorem CutOk.was (h : CutOk N T l Es) {c : Nat} (hc : c < 3 * T.length) : ∃ k : Nat, vt (newX N T (l.map nm)) c = (k : Int) ∧ k < (newO N T (l.map nm)).length ∧ (newO N T (l.map nm))[k]? = some (vt T c) := by
  obtain ⟨k, h1, h2⟩ := h.numb.was c hc
  exact ⟨k, h1, (List.getElem?_eq_some_iff.1 h2).1, h2⟩
theorem CutOk.ends (h : CutOk N T l Es) : lowV (newX N T (l.map nm)) ((newO N T (l.map nm)).length : Nat) = lowV T N + 2 * l.length := lowV_cut h.numb h.surf h.parts h.good h.cut
theorem edges_one {T : List T3} {E F : List (Int × Int)} (h : EdgesIs T E) (k : EdgesIs T F) : E = F :=
  List.Perm.eq_of_pairwise (le := ltE) (fun a b _ _ h1 h2 => by unfold ltE at h1 h2; omega) h.1 k.1 ((List.perm_ext_iff_of_nodup h.nodup k.nodup).2 fun x => by rw [h.2, k.2])
theorem endsC_nm (L : List (Int × Int)) (v : Int) : endsC L v = (L.map nm).countP fun e => e.1 == v || e.2 == v := by
  unfold endsC
  rw [List.countP_map]
  refine countP_same fun e _ => ?_
  show (e.1 == v || e.2 == v) = (min e.1 e.2 == v || max e.1 e.2 == v)
  rcases Int.le_total e.1 e.2 with h | h
  · rw [Int.min_eq_left h, Int.max_eq_right h]
  · rw [Int.min_eq_right h, Int.max_eq_left h, Bool.or_comm]
theorem idle_nm {L M : List (Int × Int)} (hp : (M.map nm).Perm (L.map nm)) {e f : Int × Int} (h : nm e = nm f) : idleE N T L e = idleE N T M f := by
  have he : ∀ v, endsC L v = endsC M v := fun v => by rw [endsC_nm, endsC_nm, hp.countP_eq]
  unfold idleE
  rcases nm_eq.1 (show nm (e.1, e.2) = nm (f.1, f.2) from h) with ⟨h1, h2⟩ | ⟨h1, h2⟩
  · rw [h1, h2, he, he]
  · rw [h1, h2, he, he, Bool.and_comm]
theorem CutOk.other (h : CutOk N T l Es) {m : List (Int × Int)} (hp : (m.map nm).Perm (l.map nm)) : CutOk N T m Es := by
  have hm : ∀ x, x ∈ m.map nm ↔ x ∈ l.map nm := fun x => hp.mem_iff
  refine ⟨h.surf, fun i hi => addC_zero.2 ?_, ?_, ?_, h.edges⟩
  · have hin := (hm (nm m[i])).1 (List.mem_map_of_mem (List.getElem_mem hi))
    obtain ⟨⟨a, ha⟩, b, hb⟩ := good_cut h.good hin
    have hsome : ∀ {o : Option Nat} {a : Nat}, o = some a → ¬ oi o < 0 := fun {o a} h => by subst h; show ¬ ((a : Int) < 0); omega
    have hno : nm m[i] ∉ (m.take i).map nm := fun h9 => by
      have hn : (m.map nm).Nodup := hp.nodup_iff.2 h.good.once
      rw [List.map_take] at h9
      obtain ⟨j, hj, he⟩ := List.mem_take_iff_getElem.1 h9
      have : j = i := (List.getElem_inj (h₀ := by omega) (h₁ := by rw [List.length_map]; exact hi) hn).1 (by rw [he, List.getElem_map])
      omega
    unfold nm at ha hb
    simp only [] at ha hb
    rcases Int.le_total m[i].1 m[i].2 with h9 | h9
    · rw [Int.min_eq_left h9, Int.max_eq_right h9] at ha hb
      exact ⟨hsome ha, hsome hb, hno⟩
    · rw [Int.min_eq_right h9, Int.max_eq_left h9] at ha hb
      exact ⟨hsome hb, hsome ha, hno⟩
  · rw [List.any_eq_false]
    intro e he
    obtain ⟨f, hf, hn⟩ := List.mem_map.1 ((hm (nm e)).1 (List.mem_map_of_mem he))
    have := List.any_eq_false.1 h.idle f hf
    rw [idle_nm hp hn] at this
    exact this
  · rw [newO_same hm]; exact h.few
theorem CutOk.asks (h : CutOk N T l Es) {i : Nat} (hi : i < (pairsL N T l Es).length) : ∃ (a b : Int) (c d n1 n2 n3 n4 : Nat), (pairsL N T l Es)[i] = (((n1 : Int), (n2 : Int)), ((n3 : Int), (n4 : Int))) ∧ a < b ∧ near T a b = true ∧
    facing (newX N T (l.map nm)) ((n1 : Int), (n2 : Int)) = some c ∧ c < 3 * T.length ∧ opp (newX N T (l.map nm)) c = none ∧ facing (newX N T (l.map nm)) ((n3 : Int), (n4 : Int)) = some d ∧ d < 3 * T.length ∧ opp (newX N T (l.map nm)) d = none ∧
    (newO N T (l.map nm))[n1]? = some a ∧ (newO N T (l.map nm))[n2]? = some b ∧ (newO N T (l.map nm))[n3]? = some b ∧ (newO N T (l.map nm))[n4]? = some a := by
  obtain ⟨e, c, d, he, hp, hlt, hc, hd, ec, ed, oc, od, fc, fd⟩ := h.pair (List.getElem?_eq_getElem hi)
  obtain ⟨n1, a1, _, a3⟩ := h.was (nx_lt hc)
  obtain ⟨n2, b1, _, b3⟩ := h.was (pv_lt hc)
  obtain ⟨n3, c1, _, c3⟩ := h.was (nx_lt hd)
  obtain ⟨n4, d1, _, d3⟩ := h.was (pv_lt hd)
  have e1 : vt T (nx c) = e.1 := congrArg Prod.fst ec
  have e2 : vt T (pv c) = e.2 := congrArg Prod.snd ec
  have e3 : vt T (nx d) = e.2 := congrArg Prod.fst ed
  have e4 : vt T (pv d) = e.1 := congrArg Prod.snd ed
  rw [e1] at a3
  rw [e2] at b3
  rw [e3] at c3
  rw [e4] at d3
  have hpp : (pairsL N T l Es)[i] = (((n1 : Int), (n2 : Int)), ((n3 : Int), (n4 : Int))) := by
    rw [hp]
    unfold eg
    rw [a1, b1, c1, d1]
  rw [hpp] at fc fd
  refine ⟨e.1, e.2, c, d, n1, n2, n3, n4, hpp, hlt, ?_, fc, hc, oc, fd, hd, od, a3, b3, c3, d3⟩
  unfold near
  have : facing T (e.1, e.2) = some c := h.surf.facing_iff.2 ⟨hc, ec⟩
  rw [this]; rfl
end
end Go.Mesh
