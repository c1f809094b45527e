/- Plain: border edges that go by twos when a surface is sewn; no program in sight. -/
import Derived.Test.YtpbdcppaiafbgaaFI
namespace Go.Mesh
def inn (T : List T3) : List Nat := (List.range (3 * T.length)).filter fun c => (opp T c).isSome
theorem mem_inn {T : List T3} {c : Nat} : c ∈ inn T ↔ c < 3 * T.length ∧ ∃ d, opp T c = some d := by
  unfold inn
  rw [List.mem_filter, List.mem_range, Option.isSome_iff_exists]
theorem inn_nodup (T : List T3) : (inn T).Nodup := (List.nodup_range).filter _
theorem filter_both {α : Type} (p : α → Bool) : ∀ l : List α, (l.filter p).length + (l.filter fun x => !p x).length = l.length
  | [] => rfl
  | a :: l => by
    have ih := filter_both p l
    rw [List.filter_cons, List.filter_cons]
    cases p a <;> simp <;> omega
theorem bord_inn (T : List T3) : (bedges T).length + (inn T).length = 3 * T.length := by
  unfold bedges bord inn
  rw [List.length_map]
  have h := filter_both (fun c => (opp T c).isNone) (List.range (3 * T.length))
  have e : (fun c => !(opp T c).isNone) = fun c => (opp T c).isSome := funext fun c => by cases opp T c <;> rfl
  rw [e, List.length_range] at h
  exact h
/-- What goes by twos is even. -/
theorem twos {f : Nat → Nat} : ∀ (n : Nat) (S : List Nat), S.length = n → S.Nodup → (∀ x ∈ S, f x ∈ S ∧ f (f x) = x ∧ f x ≠ x) → n % 2 = 0 := by
  intro n
  induction n using Nat.strongRecOn with
  | ind n ih =>
    intro S hn hS hf
    cases S with
    | nil => subst hn; rfl
    | cons x S =>
      obtain ⟨h1, h2, h3⟩ := hf x (by simp)
      have hx : x ∉ S := (List.nodup_cons.1 hS).1
      have hS2 := (List.nodup_cons.1 hS).2
      have hm : f x ∈ S := by
        rcases List.mem_cons.1 h1 with h | h
        · exact absurd h h3
        · exact h
      have hl : (S.erase (f x)).length = S.length - 1 := List.length_erase_of_mem hm
      have hpos : 0 < S.length := List.length_pos_of_mem hm
      rw [List.length_cons] at hn
      have := ih (n - 2) (by omega) (S.erase (f x)) (by omega) (hS2.erase _) fun y hy => by
        have hy2 : y ≠ f x ∧ y ∈ S := (hS2.mem_erase_iff).1 hy
        obtain ⟨g1, g2, g3⟩ := hf y (List.mem_cons_of_mem _ hy2.2)
        refine ⟨(hS2.mem_erase_iff).2 ⟨fun h9 => ?_, ?_⟩, g2, g3⟩
        · have : y = x := by rw [← g2, h9, h2]
          exact hx (this ▸ hy2.2)
        · rcases List.mem_cons.1 g1 with h9 | h9
          · have : y = f x := by rw [← g2, h9]
            exact absurd this hy2.1
          · exact h9
      omega
theorem inn_even {N : Int} {T : List T3} (hs : Surf N T) : (inn T).length % 2 = 0 := by
  refine twos (f := fun c => (opp T c).getD 0) _ (inn T) rfl (inn_nodup T) fun c hc => ?_
  obtain ⟨hl, d, hd⟩ := mem_inn.1 hc
  have hb := hs.opp_symm hl hd
  have hdl := ((hs.opp_iff).1 hd).1
  show (opp T c).getD 0 ∈ inn T ∧ (opp T ((opp T c).getD 0)).getD 0 = c ∧ (opp T c).getD 0 ≠ c
  rw [hd]
  show d ∈ inn T ∧ (opp T d).getD 0 = c ∧ d ≠ c
  refine ⟨mem_inn.2 ⟨hdl, c, hb⟩, by rw [hb]; rfl, fun h9 => ?_⟩
  subst h9
  have := ((hs.opp_iff).1 hd).2.1
  exact hs.loop3 hl this
theorem vt_sew (L : Int → Int) (T : List T3) {c : Nat} (hc : c < 3 * T.length) : vt (sewT L T) c = numL L (vt T c) := by
  unfold vt sewT
  rw [List.getD_eq_getElem?_getD, List.getD_eq_getElem?_getD, List.getElem?_map, List.getElem?_eq_getElem (by omega)]
  show vx (numL L (T[c / 3]).1, numL L (T[c / 3]).2.1, numL L (T[c / 3]).2.2) (c % 3) = numL L (vx (T[c / 3]) (c % 3))
  rcases mod3 c with h | h | h <;> rw [h] <;> rfl
theorem sewT_len (L : Int → Int) (T : List T3) : (sewT L T).length = T.length := by unfold sewT; rw [List.length_map]
/-- What met, still meets; what is sewn, meets. -/
theorem sewn_meets {N N' : Int} {T : List T3} {l : List P4} (hs : Surf N T) (hs' : Surf N' (sewT (labE (edP l)) T)) (hb : ∀ e ∈ edgs l, e ∈ bedges T) (hn : (edgs l).Nodup) : (inn T).length + 2 * l.length ≤ (inn (sewT (labE (edP l)) T)).length := by
  have hlen := sewT_len (labE (edP l)) T
  have hcor : ∀ e ∈ edgs l, ∃ c, facing T e = some c ∧ c < 3 * T.length ∧ opp T c = none ∧ eg T c = e := fun e he => by
    obtain ⟨c, h1, h2, h3⟩ := mem_bedges.1 (hb e he)
    exact ⟨c, by rw [← h3]; exact hs.facing_eg h1, h1, h2, h3⟩
  have hlab := labE_one (E := edP l)
  have hopp : ∀ c d, c < 3 * T.length → d < 3 * T.length → numL (labE (edP l)) (vt T (nx d)) = numL (labE (edP l)) (vt T (pv c)) → numL (labE (edP l)) (vt T (pv d)) = numL (labE (edP l)) (vt T (nx c)) → c ∈ inn (sewT (labE (edP l)) T) := fun c d hc hd h1 h2 => by
    refine mem_inn.2 ⟨by rw [hlen]; exact hc, d, hs'.opp_iff.2 ⟨by rw [hlen]; exact hd, ?_, ?_⟩⟩
    · rw [vt_sew _ _ (nx_lt hd), vt_sew _ _ (pv_lt hc)]; exact h1
    · rw [vt_sew _ _ (pv_lt hd), vt_sew _ _ (nx_lt hc)]; exact h2
  have hnum : ∀ x y : Int, (x, y) ∈ edP l → numL (labE (edP l)) x = numL (labE (edP l)) y := fun x y h => by
    unfold numL; rw [hlab (x, y) h]
  let f := fun e => (facing T e).getD 0
  have hf : ∀ e ∈ edgs l, f e < 3 * T.length ∧ opp T (f e) = none ∧ eg T (f e) = e := fun e he => by
    obtain ⟨c, h1, h2⟩ := hcor e he
    show (facing T e).getD 0 < _ ∧ opp T ((facing T e).getD 0) = none ∧ eg T ((facing T e).getD 0) = e
    rw [h1]; exact h2
  have hsub : ∀ c ∈ inn T ++ (edgs l).map f, c ∈ inn (sewT (labE (edP l)) T) := fun c hc => by
    rcases List.mem_append.1 hc with h | h
    · obtain ⟨hl, d, hd⟩ := mem_inn.1 h
      obtain ⟨h1, h2, h3⟩ := hs.opp_iff.1 hd
      exact hopp c d hl h1 (by rw [h2]) (by rw [h3])
    · obtain ⟨e, he, rfl⟩ := List.mem_map.1 h
      obtain ⟨h1, _, h3⟩ := hf e he
      obtain ⟨p, hp, h4⟩ := List.mem_flatMap.1 he
      have m1 : (p.1.1, p.2.2) ∈ edP l := List.mem_flatMap.2 ⟨p, hp, by simp⟩
      have m2 : (p.1.2, p.2.1) ∈ edP l := List.mem_flatMap.2 ⟨p, hp, by simp⟩
      obtain ⟨a1, _, a3⟩ := hf p.1 (mem_edgs hp).1
      obtain ⟨b1, _, b3⟩ := hf p.2 (mem_edgs hp).2
      have ea1 : vt T (nx (f p.1)) = p.1.1 := congrArg Prod.fst a3
      have ea2 : vt T (pv (f p.1)) = p.1.2 := congrArg Prod.snd a3
      have eb1 : vt T (nx (f p.2)) = p.2.1 := congrArg Prod.fst b3
      have eb2 : vt T (pv (f p.2)) = p.2.2 := congrArg Prod.snd b3
      simp only [List.mem_cons, List.not_mem_nil, or_false] at h4
      rcases h4 with rfl | rfl
      · exact hopp _ (f p.2) a1 b1 (by rw [eb1, ea2]; exact (hnum _ _ m2).symm) (by rw [eb2, ea1]; exact (hnum _ _ m1).symm)
      · exact hopp _ (f p.1) b1 a1 (by rw [ea1, eb2]; exact hnum _ _ m1) (by rw [ea2, eb1]; exact hnum _ _ m2)
  have hnd : (inn T ++ (edgs l).map f).Nodup := by
    refine List.nodup_append.2 ⟨inn_nodup T, ?_, fun a ha b hb => ?_⟩
    · rw [List.nodup_iff_pairwise_ne, List.pairwise_map]
      rw [List.nodup_iff_pairwise_ne] at hn
      refine hn.imp_of_mem fun {a b} ha hb hab he => hab ?_
      rw [← (hf a ha).2.2, ← (hf b hb).2.2, he]
    · obtain ⟨e, he, rfl⟩ := List.mem_map.1 hb
      rintro rfl
      obtain ⟨_, d, hd⟩ := mem_inn.1 ha
      rw [(hf e he).2.1] at hd
      cases hd
  have hle := hnd.length_le_of_subset (fun c hc => hsub c hc)
  rw [List.length_append, List.length_map] at hle
  have : (edgs l).length = 2 * l.length := by
    clear hsub hnd hle hf hcor hb hn hopp hnum hlab hs hs' hlen f
    induction l with
    | nil => rfl
    | cons p l ih =>
      have e : edgs (p :: l) = p.1 :: p.2 :: edgs l := rfl
      rw [e, List.length_cons, List.length_cons, ih, List.length_cons]; omega
  omega
end Go.Mesh
