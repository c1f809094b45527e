/- Plain: what was cut, sewn, at once and in two goes; no program in sight. -/
import Derived.Test.YtpbdcppaiafbgaaGreatHL
import Derived.Test.YtpbdcppaiafbgaaGreatFI
namespace Go.Mesh
open Go.Proofs.YtpbdcppaiafbgaaGreat (labP)
theorem edgs_faces (T X : List T3) : ∀ L : List (Int × Int), edgs (L.map (pairE T X)) = (L.flatMap fun e => [faceE T e, faceE T (e.2, e.1)]).map (eg X)
  | [] => rfl
  | e :: L => by
    have ih := edgs_faces T X L
    rw [List.flatMap_cons, List.map_append, ← ih]
    rfl
theorem placed_faces {X : List T3} {fs : List Nat} {l : List P4} (he : edgs l = fs.map (eg X)) (hn : fs.Nodup) (hb : ∀ c ∈ fs, c < 3 * X.length ∧ opp X c = none) (ho : ∀ c d, c < 3 * X.length → d < 3 * X.length → eg X c = eg X d → c = d) : placedN (fun e => decide (e ∈ bedges X)) l = 0 := by
  refine placed_ok ?_ ?_
  · rw [he, List.all_eq_true]
    intro x hx
    obtain ⟨c, hc, rfl⟩ := List.mem_map.1 hx
    exact decide_eq_true (List.mem_map.2 ⟨c, mem_bord.2 (hb c hc), rfl⟩)
  · rw [he]
    exact nodup_map_inj hn fun a ha b hb' h => ho a b (hb a ha).1 (hb b hb').1 h
section
variable {N : Int} {T : List T3} {l Es : List (Int × Int)}
theorem CutOk.placed (h : CutOk N T l Es) (k : Nat) : placedN (fun e => decide (e ∈ bedges (newX N T (l.map nm)))) ((pairsL N T l Es).take k) = 0 := by
  refine placed_faces (fs := ((toldE l Es).take k).flatMap fun e => [faceE T e, faceE T (e.2, e.1)]) ?_ (told_corners h.surf h.told (List.take_sublist _ _)) (fun c hc => ?_) fun c d hc hd he => h.cut.once c d hc hd he
  · rw [pairs_told, ← List.map_take, edgs_faces]
  · rw [h.numb.len]
    obtain ⟨e, he, h1⟩ := List.mem_flatMap.1 hc
    obtain ⟨a, b⟩ := h.face (List.mem_of_mem_take he)
    simp only [List.mem_cons, List.not_mem_nil, or_false] at h1
    rcases h1 with rfl | rfl
    · exact ⟨a.2.1, a.2.2.2⟩
    · exact ⟨b.2.1, b.2.2.2⟩
theorem range_getD (O : List Int) : (List.range O.length).map (fun k : Nat => O.getD (k : Int).toNat 0) = O := by
  refine List.ext_getElem (by simp) fun i h1 h2 => ?_
  simp only [List.getElem_map, List.getElem_range, Int.toNat_natCast]
  rw [List.getD_eq_getElem?_getD, List.getElem?_eq_getElem h2]
  rfl
/-- What was cut is as it was, sewn. -/
theorem CutOk.sewn (h : CutOk N T l Es) : sewT (labP (pairsL N T l Es)) (newX N T (l.map nm)) = T ∧ ((rnk (labP (pairsL N T l Es)) (newO N T (l.map nm)).length : Nat) : Int) = N ∧ sewOf (labP (pairsL N T l Es)) (newO N T (l.map nm)).length = newO N T (l.map nm) := by
  have u := h.undo
  refine ⟨u.sewn h.surf, ?_, ?_⟩
  · have h0 := h.surf.n0
    have : rnk (labP (pairsL N T l Es)) (newO N T (l.map nm)).length = N.toNat := u.rnk_all h.surf
    rw [this]
    omega
  · exact (u.of h.surf).trans (range_getD _)
/-! ## In two goes -/
theorem half_lab (k : Nat) : labP ((pairsL N T l Es).take k) = halfL T (newX N T (l.map nm)) (toldE l Es) k := by
  unfold labP halfL
  rw [pairs_told, ← List.map_take]
theorem CutOk.half (h : CutOk N T l Es) {k : Nat} (hs : Surf (rnk (halfL T (newX N T (l.map nm)) (toldE l Es) k) (newO N T (l.map nm)).length : Nat) (sewT (halfL T (newX N T (l.map nm)) (toldE l Es) k) (newX N T (l.map nm)))) : Half N T (l.map nm) (newX N T (l.map nm)) (newO N T (l.map nm)) (toldE l Es) k :=
  ⟨h.surf, h.numb, h.told, hs⟩
theorem Half.placed {C : List (Int × Int)} {X : List T3} {O : List Int} {Fs : List (Int × Int)} {k : Nat} (h : Half N T C X O Fs k) : placedN (fun e => decide (e ∈ bedges (sewT (halfL T X Fs k) X))) ((restE T (sewT (halfL T X Fs k) X) Fs k).map (pairE T (sewT (halfL T X Fs k) X))) = 0 := by
  have hl : (sewT (halfL T X Fs k) X).length = T.length := by unfold sewT; rw [List.length_map, h.numb.len]
  have hsub : (restE T (sewT (halfL T X Fs k) X) Fs k).Sublist Fs := List.filter_sublist.trans (List.drop_sublist _ _)
  refine placed_faces (edgs_faces T _ _) (told_corners h.surf h.told hsub) (fun c hc => ?_) fun c d hc hd he => h.sewn.once c d hc hd he
  rw [hl]
  obtain ⟨e, he, h1⟩ := List.mem_flatMap.1 hc
  obtain ⟨f1, f2⟩ := h.told.face (hsub.subset he)
  obtain ⟨b1, b2⟩ := h.bord he
  simp only [List.mem_cons, List.not_mem_nil, or_false] at h1
  rcases h1 with rfl | rfl
  · exact ⟨(facing_some f1).1, b1⟩
  · exact ⟨(facing_some f2).1, b2⟩
/-- Sewn again, by the others, it is as it was. -/
theorem Half.again {C : List (Int × Int)} {X : List T3} {O : List Int} {Fs : List (Int × Int)} {k : Nat} (h : Half N T C X O Fs k) : sewT (labP ((restE T (sewT (halfL T X Fs k) X) Fs k).map (pairE T (sewT (halfL T X Fs k) X)))) (sewT (halfL T X Fs k) X) = T ∧ ((Go.Mesh.rnk (labP ((restE T (sewT (halfL T X Fs k) X) Fs k).map (pairE T (sewT (halfL T X Fs k) X)))) (Go.Mesh.rnk (halfL T X Fs k) O.length) : Nat) : Int) = N := by
  have u := h.undo
  refine ⟨u.sewn h.surf, ?_⟩
  have h0 := h.surf.n0
  have : Go.Mesh.rnk (labP ((restE T (sewT (halfL T X Fs k) X) Fs k).map (pairE T (sewT (halfL T X Fs k) X)))) (Go.Mesh.rnk (halfL T X Fs k) O.length) = N.toNat := u.rnk_all h.surf
  rw [this]
  omega
/-- A pair by the new numbers. -/
def ofP (L : Int → Int) (p : P4) : P4 := ((numL L p.1.1, numL L p.1.2), (numL L p.2.1, numL L p.2.2))
def metP (p : P4) : Bool := decide (p.1.1 = p.2.2 ∧ p.1.2 = p.2.1)
/-- The others, as they are gone over. -/
def restP (L : Int → Int) (P : List P4) : List P4 := (P.map (ofP L)).filter fun p => !metP p
theorem restP_snoc (L : Int → Int) (P : List P4) (p : P4) : restP L (P ++ [p]) = if metP (ofP L p) = true then restP L P else restP L P ++ [ofP L p] := by
  unfold restP
  rw [List.map_append, List.filter_append]
  by_cases h : metP (ofP L p) = true
  · rw [if_pos h, List.map_cons, List.filter_cons_of_neg (by rw [h]; decide)]; simp
  · rw [if_neg h, List.map_cons, List.filter_cons_of_pos (by simpa using h)]; rfl
theorem ofP_pair {X : List T3} {L : Int → Int} {e : Int × Int} (h1 : faceE T e < 3 * X.length) (h2 : faceE T (e.2, e.1) < 3 * X.length) : ofP L (pairE T X e) = pairE T (sewT L X) e := by
  rw [pairE_face, pairE_face]
  unfold ofP eg
  rw [vt_sewM L X (nx_lt h1), vt_sewM L X (pv_lt h1), vt_sewM L X (nx_lt h2), vt_sewM L X (pv_lt h2)]
theorem CutOk.rest (h : CutOk N T l Es) (k : Nat) : restP (halfL T (newX N T (l.map nm)) (toldE l Es) k) ((pairsL N T l Es).drop k) = (restE T (sewT (halfL T (newX N T (l.map nm)) (toldE l Es) k) (newX N T (l.map nm))) (toldE l Es) k).map (pairE T (sewT (halfL T (newX N T (l.map nm)) (toldE l Es) k) (newX N T (l.map nm)))) := by
  unfold restP restE
  rw [pairs_told, ← List.map_drop, List.map_map, List.filter_map]
  have key : ∀ e ∈ (toldE l Es).drop k, ofP (halfL T (newX N T (l.map nm)) (toldE l Es) k) (pairE T (newX N T (l.map nm)) e) = pairE T (sewT (halfL T (newX N T (l.map nm)) (toldE l Es) k) (newX N T (l.map nm))) e := fun e he => by
    obtain ⟨a, b⟩ := h.face (List.mem_of_mem_drop he)
    exact ofP_pair (by rw [h.numb.len]; exact a.2.1) (by rw [h.numb.len]; exact b.2.1)
  rw [List.filter_congr (q := fun e => !meetE T (sewT (halfL T (newX N T (l.map nm)) (toldE l Es) k) (newX N T (l.map nm))) e) fun e he => by
    show (!metP (ofP _ (pairE T (newX N T (l.map nm)) e))) = _
    rw [key e he]; rfl]
  exact List.map_congr_left fun e he => key e (List.mem_filter.1 he).1
/-- Behind the first go: the others undo the rest. -/
theorem CutOk.halves (h : CutOk N T l Es) (k : Nat) (hs : Surf (rnk (labP ((pairsL N T l Es).take k)) (newO N T (l.map nm)).length : Nat) (sewT (labP ((pairsL N T l Es).take k)) (newX N T (l.map nm)))) :
    placedN (fun e => decide (e ∈ bedges (sewT (labP ((pairsL N T l Es).take k)) (newX N T (l.map nm))))) (restP (labP ((pairsL N T l Es).take k)) ((pairsL N T l Es).drop k)) = 0 ∧
      sewT (labP (restP (labP ((pairsL N T l Es).take k)) ((pairsL N T l Es).drop k))) (sewT (labP ((pairsL N T l Es).take k)) (newX N T (l.map nm))) = T ∧
      ((rnk (labP (restP (labP ((pairsL N T l Es).take k)) ((pairsL N T l Es).drop k))) (rnk (labP ((pairsL N T l Es).take k)) (newO N T (l.map nm)).length) : Nat) : Int) = N := by
  rw [half_lab] at hs ⊢
  have hh := h.half hs
  rw [h.rest k]
  exact ⟨hh.placed, hh.again.1, hh.again.2⟩
end
end Go.Mesh
namespace Go.Proofs.YtpbdcppaiafbgaaGreat
open Go Go.RowKit Go.Words Go.Mesh
section
variable {N : Int} {T : List T3} {l Es : List (Int × Int)}
theorem ok_bedges (hs : Surf N T) {e : Int × Int} (he : e ∈ bedges T) : ok2 e := by
  obtain ⟨c, hc, rfl⟩ := List.mem_map.1 he
  have h1 := (mem_bord.1 hc).1
  have a := hs.rng _ (nx_lt h1)
  have b := hs.rng _ (pv_lt h1)
  have := hs.nmax
  unfold ok2 I64 eg
  simp only []
  omega
theorem cut_okP (h : CutOk N T l Es) (k : Nat) : ∀ e ∈ edgs ((pairsL N T l Es).take k), ok2 e := fun e he => ok_bedges h.cut (of_decide_eq_true ((placed_zero (h.placed k)).1 e he))
/-- Sewn by its pairs it is what it was. -/
theorem cut_sewEnd (h : CutOk N T l Es) {w' : World} {x o : Value} {c : Int} (he : SewEnd w' ((newO N T (l.map nm)).length : Nat) (newX N T (l.map nm)) (pairsL N T l Es) x o c) :
    c = 0 ∧ ∃ xs, x = .agg #[.int .i64 N, xs] ∧ Sl 3 RTri w' w'.heap.size xs T ∧ Sl 1 RInt w' w'.heap.size o (newO N T (l.map nm)) := by
  have hp := h.placed (pairsL N T l Es).length
  rw [List.take_length] at hp
  obtain ⟨a1, a2, a3⟩ := h.sewn
  unfold SewEnd at he
  rw [Int.toNat_natCast, a1, a2, a3] at he
  rcases he with ⟨h1, _⟩ | ⟨_, h1, h2, _⟩ | ⟨_, _, h1, _⟩ | ⟨_, _, _, h1, h2⟩
  · exact absurd h.cut h1
  · rw [hp] at h1; exact absurd h1 h2
  · exact absurd h.surf h1
  · exact ⟨h1, h2⟩
end
end Go.Proofs.YtpbdcppaiafbgaaGreat
