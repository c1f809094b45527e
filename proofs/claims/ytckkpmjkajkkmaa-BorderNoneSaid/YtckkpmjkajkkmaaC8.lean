/- Walks: certify's together. -/
import Derived.Test.YtckkpmjkajkkmaaC7
namespace Go.Mesh
theorem vx_has {t : T3} {u : Int} : HasV t u ↔ ∃ j, j < 3 ∧ vx t j = u := by
  unfold HasV
  constructor
  · rintro (h | h | h)
    · exact ⟨0, by omega, h.symm⟩
    · exact ⟨1, by omega, h.symm⟩
    · exact ⟨2, by omega, h.symm⟩
  · rintro ⟨j, hj, rfl⟩
    match j, hj with
    | 0, _ => exact .inl rfl
    | 1, _ => exact .inr (.inl rfl)
    | 2, _ => exact .inr (.inr rfl)
/-- Is u one of the first j vertices? -/
def firstV (t : T3) (j : Nat) (u : Int) : Bool := (List.range j).any fun i => vx t i == u
theorem firstV_zero (t : T3) (u : Int) : firstV t 0 u = false := rfl
theorem firstV_succ (t : T3) (j : Nat) (u : Int) : firstV t (j + 1) u = (firstV t j u || vx t j == u) := by
  unfold firstV
  rw [List.range_succ, List.any_append]
  simp
theorem firstV_three (t : T3) (u : Int) : firstV t 3 u = decide (HasV t u) := by
  rw [Bool.eq_iff_iff, decide_eq_true_eq, vx_has]
  unfold firstV
  rw [List.any_eq_true]
  simp
theorem firstV_new {t : T3} (h : Three t) {j : Nat} (hj : j < 3) : firstV t j (vx t j) = false := by
  obtain ⟨h1, h2, h3⟩ := h
  have hj4 : j = 0 ∨ j = 1 ∨ j = 2 := by omega
  rcases hj4 with rfl | rfl | rfl
  · rfl
  · simp [firstV_succ, firstV_zero, vx, h1]
  · simp [firstV_succ, firstV_zero, vx, h2]
    exact fun e => h3 e.symm
end Go.Mesh
namespace Go.Mesh
/-- What is left to look at of triangle i (x): its vertices from j on; and, of u0, the triangles from p on. -/
def O1 (T : List T3) (v : Int) (i : Nat) (x : T3) (j : Nat) : Nat → Nat → Prop := fun r k => r = i ∧ ∃ u, u ≠ v ∧ HasV x u ∧ HasV (triAt T k) u ∧ firstV x j u = false
def O2 (T : List T3) (v : Int) (i : Nat) (x : T3) (j : Nat) (grp : List Nat) (p : Nat) : Nat → Nat → Prop := fun r k => r = i ∧ ((∃ u, u ≠ v ∧ HasV x u ∧ HasV (triAt T k) u ∧ firstV x (j + 1) u = false) ∨ (HasV (triAt T k) (vx x j) ∧ k ∉ grp.take p))
theorem adj_O1 {T : List T3} {v : Int} {i k r : Nat} {x : T3} (hx : triAt T i = x) (h : r = i ∧ AdjT T v i k) : O1 T v i x 0 r k := by
  obtain ⟨rfl, u, h1, h2, h3⟩ := h
  rw [hx] at h2
  exact ⟨rfl, u, h1, h2, h3, rfl⟩
theorem O1_skip {T : List T3} {i j k r : Nat} {x : T3} (h : O1 T (vx x j) i x j r k) : O1 T (vx x j) i x (j + 1) r k := by
  obtain ⟨rfl, u, h1, h2, h3, h4⟩ := h
  refine ⟨rfl, u, h1, h2, h3, ?_⟩
  rw [firstV_succ, h4]
  simpa using fun e : vx x j = u => h1 e.symm
theorem O1_O2 {T : List T3} {v : Int} {i j k r : Nat} {x : T3} {grp : List Nat} (h : O1 T v i x j r k) : O2 T v i x j grp 0 r k := by
  obtain ⟨rfl, u, h1, h2, h3, h4⟩ := h
  refine ⟨rfl, ?_⟩
  by_cases hu : vx x j = u
  · right; rw [hu]; exact ⟨h3, by simp⟩
  · left
    refine ⟨u, h1, h2, h3, ?_⟩
    rw [firstV_succ, h4]
    simpa using hu
theorem O2_next {T : List T3} {v : Int} {i j k r p : Nat} {x : T3} {grp : List Nat} (hp : p < grp.length) (h : O2 T v i x j grp p r k) : k = grp[p] ∨ O2 T v i x j grp (p + 1) r k := by
  obtain ⟨rfl, h | ⟨h1, h2⟩⟩ := h
  · exact .inr ⟨rfl, .inl h⟩
  · by_cases hk : k = grp[p]
    · exact .inl hk
    · refine .inr ⟨rfl, .inr ⟨h1, fun hm => ?_⟩⟩
      rw [List.take_succ_eq_append_getElem hp] at hm
      exact (List.mem_append.1 hm).elim h2 fun e => hk (List.mem_singleton.1 e)
theorem O2_O1 {T : List T3} {v : Int} {i j k r : Nat} {x : T3} {tris : List Nat} (hk : k ∈ tris) (h : O2 T v i x j (tris.filter (hasB T (vx x j))) (tris.filter (hasB T (vx x j))).length r k) : O1 T v i x (j + 1) r k := by
  obtain ⟨rfl, h | ⟨h1, h2⟩⟩ := h
  · exact ⟨rfl, h⟩
  · rw [List.take_length] at h2
    exact absurd (List.mem_filter.2 ⟨hk, by unfold hasB; exact decide_eq_true h1⟩) h2
theorem O1_three {T : List T3} {v : Int} {i k r : Nat} {x : T3} : ¬ O1 T v i x 3 r k := by
  rintro ⟨_, u, _, h2, _, h4⟩
  rw [firstV_three, decide_eq_false_iff_not] at h4
  exact h4 h2
end Go.Mesh
namespace Go.Proofs.Ytckkpmjkajkkmaa
open Go Go.RowKit Go.Words Go.Mesh

theorem triJ (t : T3) (j : Nat) (hj : j < 3) (w : World) : (Instr.index 55 (.agg #[.int .i64 t.1, .int .i64 t.2.1, .int .i64 t.2.2]) (.int .i64 (j : Int))).run Try.prog w = .ok (.int .i64 (vx t j)) w := by
  have hj4 : j = 0 ∨ j = 1 ∨ j = 2 := by omega
  rcases hj4 with rfl | rfl | rfl
  · exact tri0 _ _ _ w
  · exact tri1 _ _ _ w
  · exact tri2 _ _ _ w
theorem vx_I64 {N : Int} {t : T3} (h : InR N t) (hN : N ≤ 4096) (j : Nat) : I64 (vx t j) ∧ 0 ≤ vx t j ∧ vx t j < N := by
  obtain ⟨⟨r1, r2⟩, ⟨r3, r4⟩, ⟨r5, r6⟩⟩ := h
  unfold I64
  match j with
  | 0 => simp only [vx]; omega
  | 1 => simp only [vx]; omega
  | (n + 2) => simp only [vx]; omega
/-- The triangles at v by their other vertices. -/
structure Ends (w : World) (h0 : Nat) (T : List T3) (v : Int) (lm : List (Int × Value)) (G : List (Int × List Nat)) (row : Int → List Nat) : Prop where
  mp : Mp enc1 I64 id w (h0 + 1) lm
  rows : GRows w (h0 + 2) 3 lm G
  is : ∀ u, rowOf G u = if u = v then [] else row u

theorem mp_no_que {κ α : Type} {enc : κ → Value} {ok : κ → Prop} {ev : α → Value} {l : List (κ × α)} {w : World} {b base : Nat} {e : TypeId} {q : Value} {Q : List Nat} (h : Mp enc ok ev w b l) (hq : Que w base e q Q) : some b ≠ q.ownBlock := by
  obtain ⟨es, clock, hb, _⟩ := h.block
  obtain ⟨g, off, cap, cur, rfl, _, hg, _⟩ := hq
  intro he
  have : b = g := by simpa [Value.ownBlock] using he
  subst this
  rw [hb] at hg
  cases hg
theorem que_kept_map {κ α : Type} {enc : κ → Value} {ok : κ → Prop} {ev : α → Value} {l : List (κ × α)} {w w' : World} {b base : Nat} {e : TypeId} {q : Value} {Q : List Nat} (hq : Que w base e q Q) (h : Mp enc ok ev w b l) (hg : w.grownBy w' (some b)) : Que w' base e q Q :=
  hq.grown hg fun e => mp_no_que h hq e.symm
def keysR (R : List Nat) : List (Int × Unit) := R.map fun r : Nat => ((r : Int), ())
theorem keysR_mem (R : List Nat) (k : Nat) : (k : Int) ∈ (keysR R).map (·.1) ↔ k ∈ R := by
  unfold keysR
  rw [List.map_map, List.mem_map]
  constructor
  · rintro ⟨r, hr, he⟩
    have : r = k := by simp only [Function.comp] at he; omega
    exact this ▸ hr
  · intro h; exact ⟨k, h, rfl⟩
theorem keysR_put {R : List Nat} {k : Nat} (h : k ∉ R) : Words.put (keysR R) (k : Int) () = keysR (R ++ [k]) := by
  rw [put_new _ (by rw [keysR_mem]; exact h)]
  unfold keysR
  rw [List.map_append]; rfl
/-- What certify's together holds: the queue, what was reached, the triangles by vertex. -/
structure TState (w : World) (h0 bR : Nat) (T : List T3) (vv : Int) (lm : List (Int × Value)) (G : List (Int × List Nat)) (row : Int → List Nat) (q : Value) (R Q : List Nat) : Prop where
  que : Que w (h0 + 2) 3 q Q
  mp : Mp enc1 I64 evT w bR (keysR R)
  ends : Ends w h0 T vv lm G row
  qa : ∀ i (hi : i < (lm.map Prod.snd).length), ((lm.map Prod.snd)[i]'hi).ownBlock = none ∨ ((lm.map Prod.snd)[i]'hi).ownBlock ≠ q.ownBlock
  ne : bR ≠ h0 + 1
section
variable {w w2 w3 : World} {h0 bR : Nat} {T : List T3} {vv : Int} {lm : List (Int × Value)} {G : List (Int × List Nat)} {row : Int → List Nat} {q q' : Value} {R Q Q' : List Nat}
theorem TState.tail (h : TState w h0 bR T vv lm G row q R Q) (hq : Que w (h0 + 2) 3 q' Q') (hb : q'.ownBlock = q.ownBlock) : TState w h0 bR T vv lm G row q' R Q' :=
  ⟨hq, h.mp, h.ends, fun i hi => by rw [hb]; exact h.qa i hi, h.ne⟩
/-- Triangle k is reached, and waits. -/
theorem TState.push {k : Nat} {o : Obj} (h : TState w h0 bR T vv lm G row q R Q) (hmp : Mp enc1 I64 evT w2 bR (keysR (R ++ [k]))) (hg2 : w.grownBy w2 (some bR)) (hq : Que w3 (h0 + 2) 3 q' (Q ++ [k])) (hg3 : (w2.alloc o).grownBy w3 q.ownBlock)
    (hat : q'.ownBlock = q.ownBlock ∨ q'.ownBlock = some (w2.alloc o).heap.size) : TState w3 h0 bR T vv lm G row q' (R ++ [k]) (Q ++ [k]) := by
  have q2 := que_kept_map h.que h.mp hg2
  have q2a := q2.below ((Below.refl w2.heap.size w2).alloc (Nat.le_refl _) o) (Nat.le_refl _)
  have m2 := (h.ends.mp.kept_map h.mp (fun e => h.ne e.symm) hg2).alloc o
  have r2 := (h.ends.rows.kept_map h.mp hg2).below ((Below.refl w2.heap.size w2).alloc (Nat.le_refl _) o) (Nat.le_refl _)
  have mpa := hmp.alloc o
  refine ⟨hq, mpa.grown hg3 (mp_no_que mpa q2a), ⟨m2.grown hg3 (mp_no_que m2 q2a), r2.kept hg3 h.qa, h.ends.is⟩, fun i hi => ?_, h.ne⟩
  rcases hat with hat | hat
  · rw [hat]; exact h.qa i hi
  · cases hb : ((lm.map Prod.snd)[i]'hi).ownBlock with
    | none => exact .inl rfl
    | some g =>
      right
      rw [hat]
      intro he
      injection he with he
      have hl := r2.fam.len
      have := ((r2.fam.own i (by simpa using hi) (by rw [← hl]; simpa using hi)).lt g (by simpa using hb)).2
      omega
end

set_option maxRecDepth 20000 in
set_option maxHeartbeats 4000000 in
theorem together_calls (v v2 : Value) (n : Nat) (vv : Int) (T : List T3) (tris : List Nat) (t0 : Nat) (w : World) {B : Nat} (hB0 : B ≤ w.heap.size) (h : Sl 3 RTri w B v T) (h2 : Sl 1 RInt w B v2 (tris.map fun n : Nat => (n : Int)))
    (hp : Plain n T) (hth : ∀ t ∈ T, Three t) (hn : tris.Nodup) (hlt : ∀ i ∈ tris, i < T.length) (hv : I64 vv) (ht0 : tris.head? = some t0) :
    Calls Try.prog 107 #[.agg #[.int .i64 (n : Int), v], .int .i64 vv, v2] w fun e w' => (∃ b, e = .returned (.bool b) ∧ (b = true ↔ Conn T vv tris t0)) ∧ Below w.heap.size w w' := by
  obtain ⟨A, cap, rfl, hcap⟩ := h.form
  obtain ⟨A2, cap2, rfl, hcap2⟩ := h2.form
  rw [List.length_map] at hcap2 ⊢
  obtain ⟨p1, p2, p3, p4⟩ := hp
  have hlen : tris.length ≤ 8192 := Nat.le_trans (nodup_le tris (List.range T.length) hn fun i hi => List.mem_range.2 (hlt i hi)) (by simpa using p3)
  have hbox := (Bk.new w 24 [.int .i64 n, .slice A T.length cap]).alloc (.map #[] 0)
  have hb1 := ((Below.refl w.heap.size w).alloc (Nat.le_refl _) (.cells #[.int .i64 n, .slice A T.length cap] 24)).alloc (by simp) (.map #[] 0)
  have hmm := @run_makeMap Try.prog
  have hends : Ends ((w.alloc (.cells #[.int .i64 n, .slice A T.length cap] 24)).alloc (.map #[] 0)) w.heap.size T vv [] [] (fun u => ([] : List Nat).filter (hasB T u)) :=
    ⟨Mp.new' (enc := enc1) (ok := I64) (ev := (id : Value → Value)) (κ := Int) (n := w.heap.size + 1) (w := w.alloc (.cells #[.int .i64 n, .slice A T.length cap] 24)) (by simp), GRows.nil _ _ _, fun u => by rw [rowOf_nil]; simp⟩
  have Hh := Lib.hid h; clear h; have Hh2 := Lib.hid h2; clear h2; have Hp4 := Lib.hid p4; clear p4; have Hhth := Lib.hid hth; clear hth; have Hhn := Lib.hid hn; clear hn; have Hhlt := Lib.hid hlt; clear hlt; have Hhv := Lib.hid hv; clear hv; have Hht0 := Lib.hid ht0; clear ht0; have Hhbox := Lib.hid hbox; clear hbox; have Hhends := Lib.hid hends; clear hends
  go_enter Try.func107, Try.ntmps107
  go_wp2
  clear hmm
  go_loopw [22] (fun i wr => ∃ (m : Nat) (lm : List (Int × Value)) (G : List (Int × List Nat)), m ≤ tris.length ∧ i = .int .i64 m ∧ Ends wr w.heap.size T vv lm G (fun u => (tris.take m).filter (hasB T u)) ∧ Bk wr w.heap.size 24 [.int .i64 n, .slice A T.length cap] ∧ Below w.heap.size w wr)
    (fun i _ => tris.length - (intOf i).toNat)
  case atStart => exact ⟨0, [], [], by omega, rfl, Hhends.out, Hhbox.out, hb1⟩
  case round =>
    obtain ⟨m, lm, G, hm, rfl, hends, hbox, hbel⟩ := hrel
    have hz := hbel.size
    have hz2 : w.heap.size + 1 < wr.heap.size := hends.mp.lt
    by_cases hltm : m < tris.length
    · obtain ⟨b2, o2, hA2, hb2, c0⟩ := (Hh2.out.below keeps_int (hbel.mono hB0)).int_at (k := m) (by simpa using hltm)
      subst hA2
      rw [List.getElem_map] at c0
      have hi := Hhlt.out _ (List.getElem_mem hltm)
      have htk : tris.take (m + 1) = tris.take m ++ [tris[m]] := List.take_succ_eq_append_getElem hltm
      generalize hie : tris[m] = i at *
      obtain ⟨b, o, hA, hb, c1, c2, c3⟩ := (Hh.out.below keeps_tri (hbel.mono hB0)).tri_at hi
      subst hA
      have hInR := Hp4.out _ (List.getElem_mem hi)
      have hThree := Hhth.out _ (List.getElem_mem hi)
      have hat : triAt T i = T[i] := by unfold triAt; rw [List.getD_eq_getElem?_getD, List.getElem?_eq_getElem hi]; rfl
      have d1 : wr.cell? ⟨w.heap.size, 1, none⟩ = some (.slice (some ⟨b, o, none⟩) T.length cap) := hbox.cell 1
      generalize hx : T[i] = x at *
      have hix := fun j hj w => triJ x j hj w
      have Hhends := Lib.hid hends; clear hends; have Hhbox := Lib.hid hbox; clear hbox; have Hhtk := Lib.hid htk; clear htk; have Hhie := Lib.hid hie; clear hie; have HhInR := Lib.hid hInR; clear hInR; have HhThree := Lib.hid hThree; clear hThree; have Hhat := Lib.hid hat; clear hat; have Hhx := Lib.hid hx; clear hx; have Hhix := Lib.hid hix; clear hix
      go_wp2
      go_loopw [31] (fun jv wi => ∃ (j : Nat) (lm : List (Int × Value)) (G : List (Int × List Nat)), j ≤ 3 ∧ jv = .int .i64 j ∧ Ends wi w.heap.size T vv lm G (fun u => (tris.take m).filter (hasB T u) ++ if firstV x j u then [i] else []) ∧ Bk wi w.heap.size 24 [.int .i64 n, .slice (some ⟨b, o, none⟩) T.length cap] ∧ Below w.heap.size w wi)
        (fun jv _ => 3 - (intOf jv).toNat)
      case atStart => exact ⟨0, lm, G, by omega, rfl, by simpa [firstV_zero] using Hhends.out, Hhbox.out, hbel⟩
      case round =>
        clear c0 c1 c2 c3 d1
        obtain ⟨j, lm, G, hj, rfl, hends, hbox, hbel⟩ := hrel
        have hz := hbel.size
        have hz2 : w.heap.size + 1 < wr.heap.size := hends.mp.lt
        by_cases hltj : j < 3
        · have ix := Hhix.out j hltj
          obtain ⟨hok, hu1, hu2⟩ := vx_I64 HhInR.out p2 j
          have hnew := firstV_new HhThree.out hltj
          have hsucc := fun u => firstV_succ x j u
          generalize hue : vx x j = u0 at *
          have Hhends := Lib.hid hends; clear hends; have Hhbox := Lib.hid hbox; clear hbox; have Hhok := Lib.hid hok; clear hok; have Hhnew := Lib.hid hnew; clear hnew; have Hhsucc := Lib.hid hsucc; clear hsucc; have Hhue := Lib.hid hue; clear hue
          by_cases huv : u0 = vv
          · subst huv
            have hends2 : Ends wr w.heap.size T u0 lm G (fun u => (tris.take m).filter (hasB T u) ++ if firstV x (j + 1) u then [i] else []) :=
              ⟨Hhends.out.mp, Hhends.out.rows, fun u => by
                rw [Hhends.out.is u]
                by_cases hu : u = u0
                · rw [if_pos hu, if_pos hu]
                · rw [if_neg hu, if_neg hu]
                  have : (u0 == u) = false := by simpa using fun e : u0 = u => hu e.symm
                  simp only [Hhsucc.out u, this, Bool.or_false]⟩
            have Hhends2 := Lib.hid hends2; clear hends2
            go_wp2
            exact ⟨⟨j + 1, lm, G, by omega, by simp, Hhends2.out, Hhbox.out, hbel⟩, by simp [intOf]; omega⟩
          · have hrow0 := Hhends.out.rows.row u0
            obtain ⟨Av, capv, hv, hcapv⟩ := own_form hrow0
            have hrl : (rowOf G u0).length ≤ 8192 := by
              rw [Hhends.out.is u0, if_neg huv, Hhnew.out]
              simp only [Bool.false_eq_true, if_false, List.append_nil]
              exact Nat.le_trans (List.length_filter_le _ _) (by rw [List.length_take]; omega)
            have hrg : rowOf G u0 = (tris.take m).filter (hasB T u0) := by
              rw [Hhends.out.is u0, if_neg huv, Hhnew.out]; simp
            generalize hg : rowOf G u0 = grp at *
            have hv2 : ((Words.look lm u0).map id).getD (.slice none 0 0) = .slice Av grp.length capv := by rw [show ∀ o : Option Value, o.map id = o from fun o => by cases o <;> rfl]; exact hv
            have hrow := hrow0.alloc (.cells #[.int .i64 i] 3)
            rw [hv] at hrow
            have hmpA := Hhends.out.mp.alloc (.cells #[.int .i64 i] 3)
            have hrowsA := Hhends.out.rows.below ((Below.refl _ _).alloc (Nat.le_refl _) (.cells #[.int .i64 i] 3)) (Nat.le_refl _)
            have hboxA := Hhbox.out.alloc (.cells #[.int .i64 i] 3)
            have hbA := hbel.alloc hz (.cells #[.int .i64 i] 3)
            clear hrow0
            have Hhv := Lib.hid hv; clear hv; have Hhg := Lib.hid hg; clear hg; have Hhv2 := Lib.hid hv2; clear hv2; have Hhrow := Lib.hid hrow; clear hrow; have HhmpA := Lib.hid hmpA; clear hmpA; have HhrowsA := Lib.hid hrowsA; clear hrowsA; have HhboxA := Lib.hid hboxA; clear hboxA; have Hhrg := Lib.hid hrg; clear hrg
            go_wp2_with (first
              | (at_lookup; refine wpList_look _ rfl _ _ 112 rfl 3 28 keyI Try.underlying112 zero_row (w.heap.size + 1) lm rfl Hhends.out.mp u0 rfl Hhok.out ?_; rw [Hhv2.out])
              | (at_builtin; refine append_block _ rfl (.tmp 41) (.tmp 43) 28 rfl (w.heap.size + 2) info_int Try.underlying28 rfl (by omega) _ grp.length (grp.map encI) rfl Hhrow.out wr.heap.size [.int .i64 i] rfl (Bk.new _ _ _) rfl (by simp [Value.oneCell']) (by omega) (by omega) (by simp; omega) ?_; intro v1 w3 hown3 hb9 hgr3 hat3; have Hhown3 := Lib.hid hown3; clear hown3; have Hhgr3 := Lib.hid hgr3; clear hgr3; have Hhat3 := Lib.hid hat3; clear hat3)
              | (at_mapUpdate; refine wpList_put _ rfl _ _ _ 112 rfl 3 28 keyI Try.underlying112 (w.heap.size + 1) lm rfl (HhmpA.out.kept_own Hhrow.out Hhgr3.out) u0 rfl Hhok.out v1 rfl ?_; intro w4 hmp4 hgr4 hsz4; have Hhmp4 := Lib.hid hmp4; clear hmp4; have Hhgr4 := Lib.hid hgr4; clear hgr4; clear hsz4))
            have mp3 := HhmpA.out.kept_own Hhrow.out Hhgr3.out
            have hL9 : (grp ++ [i]).map encI = grp.map encI ++ [.int .i64 (i : Int)] := by rw [List.map_append]; rfl
            have hval : Words.valOf (Words.ent lm u0 (.slice none 0 0)) u0 = .slice Av grp.length capv := by unfold Words.valOf; rw [look_ent]; exact Hhv.out
            have rows3 := (HhrowsA.out.ent u0).put (x := u0) (v' := v1) (L' := grp ++ [i]) ((ent_keys G _ _ _).2 (.inl rfl)) (by rw [hL9, List.length_append]; exact Hhown3.out) (by rw [hval]; exact Hhgr3.out) (by
              rw [hval]
              exact Hhat3.out.imp id fun h9 => ⟨_, h9, by simp⟩)
            rw [put_ent, put_ent] at rows3
            refine ⟨⟨j + 1, _, _, by omega, by simp, { mp := Hhmp4.out, rows := rows3.kept_map mp3 Hhgr4.out, is := fun u => ?_ }, (HhboxA.out.kept_own Hhrow.out (by decide) Hhgr3.out).kept_map mp3 Hhgr4.out, (hbA.trans (hb9.mono (by omega))).grown Hhgr4.out (by have := hb9.size; simp at this; omega) (fun q hq => by cases hq; omega)⟩, by simp [intOf]; omega⟩
            rw [rowOf_put]
            by_cases hu : u0 = u
            · subst hu
              rw [if_pos rfl, if_neg huv, Hhrg.out, Hhsucc.out]
              simp
            · rw [if_neg hu, Hhends.out.is u]
              by_cases hu2 : u = vv
              · rw [if_pos hu2, if_pos hu2]
              · rw [if_neg hu2, if_neg hu2]
                have : (u0 == u) = false := by simpa using hu
                simp only [Hhsucc.out u, this, Bool.or_false]
        · have hj3 : j = 3 := by omega
          subst hj3
          have hends2 : Ends wr w.heap.size T vv lm G (fun u => (tris.take (m + 1)).filter (hasB T u)) :=
            ⟨hends.mp, hends.rows, fun u => by
              rw [hends.is u]
              by_cases hu : u = vv
              · rw [if_pos hu, if_pos hu]
              · rw [if_neg hu, if_neg hu, Hhtk.out, List.filter_append, firstV_three]
                congr 1
                have : hasB T u i = decide (HasV x u) := by unfold hasB; rw [Hhat.out]
                rw [List.filter_cons, this]
                simp⟩
          have Hhends := Lib.hid hends; clear hends; have Hhends2 := Lib.hid hends2; clear hends2; have Hhbox := Lib.hid hbox; clear hbox
          go_wp2
          exact ⟨⟨m + 1, lm, G, by omega, by simp, Hhends2.out, Hhbox.out, hbel⟩, by simp [intOf]; omega⟩
    · have hml : m = tris.length := by omega
      subst hml
      simp only [List.take_length] at hends
      obtain ⟨rest, htr⟩ : ∃ rest, tris = t0 :: rest := by
        have := Hht0.out
        cases tris with
        | nil => cases this
        | cons a l => simp at this; subst this; exact ⟨l, rfl⟩
      have h0mem : t0 ∈ tris := by rw [htr]; exact List.mem_cons_self
      have h0len : 0 < tris.length := List.length_pos_of_mem h0mem
      obtain ⟨b2, o2, hA2, hb2, c0⟩ := (Hh2.out.below keeps_int (hbel.mono hB0)).int_at (k := 0) (by simpa using h0len)
      subst hA2
      have e0 : tris[0] = t0 := by simp only [htr]; rfl
      rw [List.getElem_map, Nat.add_zero, e0] at c0
      have h0lt := Hhlt.out t0 h0mem
      have hok0 : I64 (t0 : Int) := I64.nat (by omega)
      have hnew : Mp enc1 I64 evT (wr.alloc (.map #[] 0)) wr.heap.size ([] : List (Int × Unit)) := Mp.new wr
      have hbA := hbel.alloc hz (.map #[] 0)
      have hmpA := hends.mp.alloc (.map #[] 0)
      have hrowsA := hends.rows.below ((Below.refl _ _).alloc (Nat.le_refl _) (.map #[] 0)) (Nat.le_refl _)
      have hboxA := hbox.alloc (.map #[] 0)
      have hmm := @run_makeMap Try.prog
      have his := hends.is
      obtain ⟨bR, hbR⟩ : ∃ bR, bR = wr.heap.size := ⟨_, rfl⟩
      have hb2w : b2 < wr.heap.size := by omega
      have Hhends := Lib.hid hends; clear hends; have Hhbox := Lib.hid hbox; clear hbox; have Hhtr := Lib.hid htr; clear htr; have Hh0mem := Lib.hid h0mem; clear h0mem; have He0 := Lib.hid e0; clear e0; have Hhok0 := Lib.hid hok0; clear hok0; have Hhnew := Lib.hid hnew; clear hnew; have HhmpA := Lib.hid hmpA; clear hmpA; have HhrowsA := Lib.hid hrowsA; clear hrowsA; have HhboxA := Lib.hid hboxA; clear hboxA; have Hhis := Lib.hid his; clear his; have HhbR := Lib.hid hbR; clear hbR
      go_wp2_with (refine wpList_insert _ rfl _ _ _ 81 rfl 3 4 keyI Try.underlying81 wr.heap.size [] rfl Hhnew.out (t0 : Int) rfl Hhok0.out () rfl ?_; intro w2 hmp2 hgr2 hsz2; have hb2' := hbA.grown hgr2 (by simp; omega) (fun q hq => by cases hq; omega); have hz9 := hb2'.size; have hsz3 : wr.heap.size + 1 ≤ w2.heap.size := (by rw [hsz2]; simp); have c2 := ((Below.refl wr.heap.size wr).alloc (Nat.le_refl _) (.map #[] 0)).grown hgr2 (by simp) (fun q hq => by cases hq; omega) |>.cell (p := ⟨b2, o2, none⟩) (by simp; omega) |>.trans c0; have Hhmp2 := Lib.hid hmp2; clear hmp2; have Hhgr2 := Lib.hid hgr2; clear hgr2; clear hsz2)
      have hst : TState (w2.alloc (.cells #[.int .i64 t0] 3)) w.heap.size wr.heap.size T vv lm G (fun u => tris.filter (hasB T u)) (.slice (some ⟨w2.heap.size, 0, none⟩) 1 1) [t0] [t0] := by
        have m2 := (HhmpA.out.kept_map Hhnew.out (by omega) Hhgr2.out).alloc (.cells #[.int .i64 t0] 3)
        have r2 := (HhrowsA.out.kept_map Hhnew.out Hhgr2.out).below ((Below.refl w2.heap.size w2).alloc (Nat.le_refl _) (.cells #[.int .i64 t0] 3)) (Nat.le_refl _)
        refine ⟨Que.one w2 _ t0 (by omega), Hhmp2.out.alloc _, ⟨m2, r2, Hhis.out⟩, fun i hi => ?_, by omega⟩
        cases hb : ((lm.map Prod.snd)[i]'hi).ownBlock with
        | none => exact .inl rfl
        | some g =>
          right
          intro he
          have hge : g = w2.heap.size := by simpa [Value.ownBlock] using he
          have r3 := HhrowsA.out.kept_map Hhnew.out Hhgr2.out
          have hl := r3.fam.len
          have := ((r3.fam.own i (by simpa using hi) (by rw [← hl]; simpa using hi)).lt g (by simpa using hb)).2
          omega
      have hbfs := Bfs.begin_ (T := T) (v := vv) Hh0mem.out
      have hbox2 := (HhboxA.out.kept_map Hhnew.out Hhgr2.out).alloc (.cells #[.int .i64 t0] 3)
      have hb3 := hb2'.alloc hz9 (.cells #[.int .i64 t0] 3)
      rw [← HhbR.out] at hst ⊢
      have hbR2 := HhbR.out
      have hbR3 : w.heap.size + 2 ≤ bR := by omega
      have Hhst := Lib.hid hst; clear hst; have Hhbfs := Lib.hid hbfs; clear hbfs; have Hhbox2 := Lib.hid hbox2; clear hbox2
      clear hbR2 c2 c0
      go_loopw [13] (fun q wi => ∃ (R Q : List Nat), TState wi w.heap.size bR T vv lm G (fun u => tris.filter (hasB T u)) q R Q ∧ Bfs T vv tris t0 R Q (fun _ _ => False) ∧ 2 * (tris.length - R.length) + Q.length ≤ 2 * tris.length ∧ Bk wi w.heap.size 24 [.int .i64 n, .slice A T.length cap] ∧ Below w.heap.size w wi)
        (fun q wi => 2 * (tris.length - mapSize wi bR) + sliceLen q)
      case atStart => exact ⟨[t0], [t0], Hhst.out, Hhbfs.out, by simp; omega, Hhbox2.out, hb3⟩
      case round =>
        obtain ⟨R, Q, hst, hbfs, hRQ, hbox, hbel⟩ := hrel
        have hz := hbel.size
        have hR := hst.mp.msize
        unfold keysR at hR
        rw [List.length_map] at hR
        obtain ⟨g, off, capq, hq, hcq⟩ := hst.que.form
        subst hq
        have hRl := hbfs.le
        cases Q with
        | nil =>
          have hlenR : ((R.length : Int) == (tris.length : Int)) = true ↔ Conn T vv tris t0 := by
            rw [← hbfs.end_ Hhn.out, beq_iff_eq]
            omega
          have hmp := hst.mp
          have hkl : (keysR R).length = R.length := by unfold keysR; simp
          have Hhst := Lib.hid hst; clear hst; have Hhbfs := Lib.hid hbfs; clear hbfs; have Hhbox := Lib.hid hbox; clear hbox; have HhlenR := Lib.hid hlenR; clear hlenR; have Hhmp := Lib.hid hmp; clear hmp; have Hhkl := Lib.hid hkl; clear hkl
          go_wp2_with (at_len; refine wpList_len _ rfl _ 81 rfl 3 4 Try.underlying81 bR (keysR R) rfl Hhmp.out ?_; rw [Hhkl.out])
          go_ret
          exact ⟨⟨_, rfl, HhlenR.out⟩, hbel⟩
        | cons i Q =>
          have hiR := hbfs.wait i List.mem_cons_self
          have hit := hbfs.sub i hiR
          have hilt := Hhlt.out i hit
          obtain ⟨b, o, hA, hb, c1, c2, c3⟩ := (Hh.out.below keeps_tri (hbel.mono hB0)).tri_at hilt
          subst hA
          have hInR := Hp4.out _ (List.getElem_mem hilt)
          have hThree := Hhth.out _ (List.getElem_mem hilt)
          have hat : triAt T i = T[i] := by unfold triAt; rw [List.getD_eq_getElem?_getD, List.getElem?_eq_getElem hilt]; rfl
          have d1 : wr.cell? ⟨w.heap.size, 1, none⟩ = some (.slice (some ⟨b, o, none⟩) T.length cap) := hbox.cell 1
          generalize hx : T[i] = x at *
          have hix := fun j hj w => triJ x j hj w
          have hpop := (hbfs.pop).mono (o' := O1 T vv i x 0) fun r k _ h9 => .inr (adj_O1 hat h9)
          have ch := hst.que.head
          have htl := hst.que.tail
          simp only [List.length_cons] at hcq ch htl hst ⊢
          have hst1 := hst.tail htl.1 rfl
          have hst2 := fun h9 : capq = 1 => hst.tail (htl.2 h9) rfl
          simp only [Nat.add_sub_cancel] at hst1
          have hmu : 2 * (tris.length - mapSize wr bR) + (Q.length + 1) = 2 * (tris.length - R.length) + Q.length + 1 := by rw [hR]; omega
          obtain ⟨MU, hMU⟩ : ∃ MU, MU = 2 * (tris.length - R.length) + Q.length := ⟨_, rfl⟩
          simp only [List.length_cons] at hRQ
          have hMUb : MU ≤ 16384 := by omega
          have hMUc : MU + 1 ≤ 2 * tris.length := by omega
          have hmu2 : 2 * (tris.length - mapSize wr bR) + (Q.length + 1) = MU + 1 := by omega
          have Hhst := Lib.hid hst; clear hst; have Hhbfs := Lib.hid hbfs; clear hbfs; have Hhbox := Lib.hid hbox; clear hbox; have HhInR := Lib.hid hInR; clear hInR; have HhThree := Lib.hid hThree; clear hThree; have Hhat := Lib.hid hat; clear hat; have Hhx := Lib.hid hx; clear hx; have Hhix := Lib.hid hix; clear hix; have Hhpop := Lib.hid hpop; clear hpop; have Hhtl := Lib.hid htl; clear htl; have Hhst1 := Lib.hid hst1; clear hst1; have Hhst2 := Lib.hid hst2; clear hst2; have HhiR := Lib.hid hiR; clear hiR; have Hhit := Lib.hid hit; clear hit; have Hhmu := Lib.hid hmu; clear hmu; have Hhmu2 := Lib.hid hmu2; clear hmu2; have HhR := Lib.hid hR; clear hR
          rcases (show (capq = 1 ∧ Q = []) ∨ capq ≠ 1 from if h9 : capq = 1 then .inl ⟨h9, List.eq_nil_of_length_eq_zero (by omega)⟩ else .inr h9) with ⟨rfl, rfl⟩ | hc1
          all_goals
            go_wp2
            go_loopw [13, 69] (fun q jv wi => ∃ (j : Nat) (R Q : List Nat), j ≤ 3 ∧ jv = .int .i64 j ∧ TState wi w.heap.size bR T vv lm G (fun u => tris.filter (hasB T u)) q R Q ∧ Bfs T vv tris t0 R Q (O1 T vv i x j) ∧ i ∈ R ∧ 2 * (tris.length - R.length) + Q.length ≤ MU ∧
                Bk wi w.heap.size 24 [.int .i64 n, .slice (some ⟨b, o, none⟩) T.length cap] ∧ Below w.heap.size w wi)
              (fun _ jv _ => 3 - (intOf jv).toNat)
            case atStart => exact ⟨0, R, _, by omega, rfl, by first | exact Hhst2.out rfl | exact Hhst2.out trivial | exact Hhst1.out, Hhpop.out, HhiR.out, by omega, Hhbox.out, hbel⟩
            case round =>
              clear ch c1 c2 c3 d1
              obtain ⟨j, R, Q, hj, rfl, hst, hbfs, hiR, hle, hbox, hbel⟩ := hrel
              have hz := hbel.size
              obtain ⟨g9, off9, capq9, hq, hcq9⟩ := hst.que.form
              subst hq
              by_cases hltj : j < 3
              · have ix := Hhix.out j hltj
                obtain ⟨hok, hu1, hu2⟩ := vx_I64 HhInR.out p2 j
                generalize hue : vx x j = u0 at *
                by_cases huv : u0 = vv
                · subst huv
                  have hb2 := hbfs.mono (o' := O1 T u0 i x (j + 1)) fun r k _ h9 => .inr (by rw [← hue] at h9 ⊢; exact O1_skip h9)
                  have Hhst := Lib.hid hst; clear hst; have Hhbfs := Lib.hid hbfs; clear hbfs; have Hhb2 := Lib.hid hb2; clear hb2; have Hhbox := Lib.hid hbox; clear hbox; have Hhok := Lib.hid hok; clear hok; have Hhue := Lib.hid hue; clear hue; have HhiR := Lib.hid hiR; clear hiR
                  go_wp2
                  exact ⟨⟨j + 1, R, Q, by omega, by simp, Hhst.out, Hhb2.out, HhiR.out, hle, Hhbox.out, hbel⟩, by simp [intOf]; omega⟩
                · have hrow0 := hst.ends.rows.row u0
                  obtain ⟨Av, capv, hv, hcapv⟩ := own_form hrow0
                  have hrg : rowOf G u0 = tris.filter (hasB T u0) := by rw [hst.ends.is u0, if_neg huv]
                  have hrl : (rowOf G u0).length ≤ 8192 := by rw [hrg]; exact Nat.le_trans (List.length_filter_le _ _) hlen
                  generalize hg : rowOf G u0 = grp at *
                  have hv2 : ((Words.look lm u0).map id).getD (.slice none 0 0) = .slice Av grp.length capv := by rw [show ∀ o : Option Value, o.map id = o from fun o => by cases o <;> rfl]; exact hv
                  have hb2 := hbfs.mono (o' := O2 T vv i x j grp 0) fun r k _ h9 => .inr (O1_O2 h9)
                  clear hrow0
                  have Hhst := Lib.hid hst; clear hst; have Hhbfs := Lib.hid hbfs; clear hbfs; have Hhb2 := Lib.hid hb2; clear hb2; have Hhbox := Lib.hid hbox; clear hbox; have Hhok := Lib.hid hok; clear hok; have Hhue := Lib.hid hue; clear hue; have HhiR := Lib.hid hiR; clear hiR; have Hhv := Lib.hid hv; clear hv; have Hhg := Lib.hid hg; clear hg; have Hhv2 := Lib.hid hv2; clear hv2; have Hhrg := Lib.hid hrg; clear hrg
                  go_wp2_with (at_lookup; refine wpList_look _ rfl _ _ 112 rfl 3 28 keyI Try.underlying112 zero_row (w.heap.size + 1) lm rfl Hhst.out.ends.mp u0 rfl Hhok.out ?_; rw [Hhv2.out])
                  go_loopw [13, 79] (fun q pv wi => ∃ (p : Nat) (R Q : List Nat), p ≤ grp.length ∧ pv = .int .i64 p ∧ TState wi w.heap.size bR T vv lm G (fun u => tris.filter (hasB T u)) q R Q ∧ Bfs T vv tris t0 R Q (O2 T vv i x j grp p) ∧ i ∈ R ∧ 2 * (tris.length - R.length) + Q.length ≤ MU ∧
                      Bk wi w.heap.size 24 [.int .i64 n, .slice (some ⟨b, o, none⟩) T.length cap] ∧ Below w.heap.size w wi)
                    (fun _ pv _ => grp.length - (intOf pv).toNat)
                  case atStart => exact ⟨0, R, Q, by omega, rfl, Hhst.out, Hhb2.out, HhiR.out, hle, Hhbox.out, hbel⟩
                  case round =>
                    obtain ⟨p, R, Q, hp, rfl, hst, hbfs, hiR, hle, hbox, hbel⟩ := hrel
                    have hz := hbel.size
                    obtain ⟨g7, off7, capq7, hq, hcq7⟩ := hst.que.form
                    subst hq
                    by_cases hltp : p < grp.length
                    · have hrow := hst.ends.rows.row u0
                      rw [Hhv.out, Hhg.out] at hrow
                      obtain ⟨b3, o3, rfl, hb3, c1⟩ := (ints_own hrow).int_at (k := p) (by simpa using hltp)
                      rw [List.getElem_map] at c1
                      have hkm : grp[p] ∈ tris.filter (hasB T u0) := by rw [← Hhrg.out]; exact List.getElem_mem hltp
                      have hnext := fun r k' (h9 : O2 T vv i x j grp p r k') => O2_next hltp h9
                      generalize hke : grp[p] = k at *
                      obtain ⟨hkt, hkh⟩ := List.mem_filter.1 hkm
                      have hadj : AdjT T vv i k := ⟨u0, huv, by rw [Hhat.out, ← Hhue.out]; exact vx_has.2 ⟨j, hltj, rfl⟩, of_decide_eq_true hkh⟩
                      have hklt := Hhlt.out k hkt
                      have hokk : I64 (k : Int) := I64.nat (by omega)
                      by_cases hkR : k ∈ R
                      · have hs2 : ((Words.look (keysR R) (k : Int)).map evT).getD (.bool false) = .bool true := by
                          obtain ⟨u, hu⟩ := Option.isSome_iff_exists.1 ((look_isSome (keysR R) (k : Int)).2 ((keysR_mem R k).2 hkR))
                          rw [hu]; rfl
                        have hb2 := hbfs.mono (o' := O2 T vv i x j grp (p + 1)) fun r k' _ h9 => (hnext r k' h9).imp (fun e => by rw [e]; exact hkR) id
                        have hmpR := hst.mp
                        have Hhst := Lib.hid hst; clear hst; have Hhbfs := Lib.hid hbfs; clear hbfs; have Hhb2 := Lib.hid hb2; clear hb2; have Hhbox := Lib.hid hbox; clear hbox; have Hhokk := Lib.hid hokk; clear hokk; have Hhs2 := Lib.hid hs2; clear hs2; have Hhadj := Lib.hid hadj; clear hadj; have Hhkm := Lib.hid hkm; clear hkm; have HhkR := Lib.hid hkR; clear hkR; have Hhkt := Lib.hid hkt; clear hkt; have Hhkh := Lib.hid hkh; clear hkh; have Hhke := Lib.hid hke; clear hke; have Hhnext := Lib.hid hnext; clear hnext; have Hhrow := Lib.hid hrow; clear hrow; have HhiR := Lib.hid hiR; clear hiR; have HhmpR := Lib.hid hmpR; clear hmpR
                        go_wp2_with (at_lookup; refine wpList_look _ rfl _ _ 81 rfl 3 4 keyI Try.underlying81 zero_bool bR (keysR R) rfl HhmpR.out (k : Int) rfl Hhokk.out ?_; rw [Hhs2.out])
                        exact ⟨⟨p + 1, R, Q, by omega, by simp, Hhst.out, Hhb2.out, HhiR.out, hle, Hhbox.out, hbel⟩, by simp [intOf]; omega⟩
                      · have hs2 : ((Words.look (keysR R) (k : Int)).map evT).getD (.bool false) = .bool false := by
                          rw [(look_none (keysR R) (k : Int)).2 (by rw [keysR_mem]; exact hkR)]; rfl
                        have hb2 := hbfs.push (o' := O2 T vv i x j grp (p + 1)) hkt hkR hiR hadj fun r k' _ h9 => hnext r k' h9
                        have hpl := hb2.le
                        rw [List.length_append] at hpl
                        simp only [List.length_cons, List.length_nil] at hpl
                        have hiR2 : i ∈ R ++ [k] := List.mem_append.2 (.inl hiR)
                        have hkp := keysR_put hkR
                        have hmpR := hst.mp
                        have hQl : Q.length ≤ 24576 := by omega
                        have hz2 : w.heap.size + 2 ≤ wr.heap.size := by have := hst.mp.lt; omega
                        have hstq := hst.que
                        have Hhst := Lib.hid hst; clear hst; have Hhbfs := Lib.hid hbfs; clear hbfs; have Hhb2 := Lib.hid hb2; clear hb2; have Hhbox := Lib.hid hbox; clear hbox; have Hhokk := Lib.hid hokk; clear hokk; have Hhs2 := Lib.hid hs2; clear hs2; have Hhadj := Lib.hid hadj; clear hadj; have Hhkm := Lib.hid hkm; clear hkm; have HhkR := Lib.hid hkR; clear hkR; have Hhkt := Lib.hid hkt; clear hkt; have Hhkh := Lib.hid hkh; clear hkh; have Hhke := Lib.hid hke; clear hke; have Hhnext := Lib.hid hnext; clear hnext; have Hhrow := Lib.hid hrow; clear hrow; have HhiR := Lib.hid hiR; clear hiR; have HhmpR := Lib.hid hmpR; clear hmpR; have HhiR2 := Lib.hid hiR2; clear hiR2; have Hhkp := Lib.hid hkp; clear hkp; have Hhstq := Lib.hid hstq; clear hstq
                        go_wp2_with (first
                          | (at_lookup; refine wpList_look _ rfl _ _ 81 rfl 3 4 keyI Try.underlying81 zero_bool bR (keysR R) rfl HhmpR.out (k : Int) rfl Hhokk.out ?_; rw [Hhs2.out])
                          | (at_mapUpdate; refine wpList_put _ rfl _ _ _ 81 rfl 3 4 keyI Try.underlying81 bR (keysR R) rfl HhmpR.out (k : Int) rfl Hhokk.out () rfl ?_; intro w2 hmp2 hgr2 hsz2; have hb2' := hbel.grown hgr2 hz (fun q hq => by cases hq; omega); have hz9 := hb2'.size; have hsz3 := hgr2.size; rw [Hhkp.out] at hmp2; have Hhmp2 := Lib.hid hmp2; clear hmp2; have Hhgr2 := Lib.hid hgr2; clear hgr2; clear hsz2)
                          | (at_builtin; refine wpList_append_que _ rfl (.tmp 89) (.tmp 91) 28 rfl (w.heap.size + 2) info_int Try.underlying28 _ Q rfl ((que_kept_map Hhstq.out HhmpR.out Hhgr2.out).below ((Below.refl _ _).alloc (Nat.le_refl _) _) (Nat.le_refl _)) k ⟨w2.heap.size, 0, none⟩ 1 rfl ((Bk.new w2 3 [.int .i64 k]).cell 0) (by omega) (by simp; omega) ?_; intro v1 w3 hq3 hgr3 hat3; have Hhq3 := Lib.hid hq3; clear hq3; have Hhgr3 := Lib.hid hgr3; clear hgr3; have Hhat3 := Lib.hid hat3; clear hat3))
                        have hst3 := Hhst.out.push Hhmp2.out Hhgr2.out Hhq3.out Hhgr3.out Hhat3.out
                        have q2a := (que_kept_map Hhstq.out HhmpR.out Hhgr2.out).below ((Below.refl _ _).alloc (Nat.le_refl _) (.cells #[.int .i64 k] 3)) (Nat.le_refl _)
                        have bx := (Hhbox.out.kept_map HhmpR.out Hhgr2.out).alloc (.cells #[.int .i64 k] 3)
                        refine ⟨⟨p + 1, _, _, by omega, by simp, hst3, Hhb2.out, HhiR2.out, by simp only [List.length_append, List.length_cons, List.length_nil]; omega, bx.grown Hhgr3.out fun e => ?_, ?_⟩, by simp [intOf]; omega⟩
                        · obtain ⟨g0, hg0⟩ := Hhstq.out.lt _ e.symm
                          omega
                        · exact (hb2'.alloc hz9 _).grown Hhgr3.out (by simp; omega) fun q hq => by have := (q2a.lt q hq).1; omega
                    · have hpl : p = grp.length := by omega
                      subst hpl
                      have hb2 := hbfs.mono (o' := O1 T vv i x (j + 1)) fun r k' hk' h9 => .inr (by
                        have h8 := h9
                        rw [Hhrg.out, ← Hhue.out] at h8
                        exact O2_O1 hk' h8)
                      have Hhst := Lib.hid hst; clear hst; have Hhbfs := Lib.hid hbfs; clear hbfs; have Hhb2 := Lib.hid hb2; clear hb2; have Hhbox := Lib.hid hbox; clear hbox; have HhiR := Lib.hid hiR; clear hiR
                      go_wp2
                      exact ⟨⟨j + 1, R, Q, by omega, by simp, Hhst.out, Hhb2.out, HhiR.out, hle, Hhbox.out, hbel⟩, by simp [intOf]; omega⟩
              · have hj3 : j = 3 := by omega
                subst hj3
                have hb2 := hbfs.mono (o' := fun _ _ => False) fun r k _ h9 => .inr (O1_three h9)
                have hR2 := hst.mp.msize
                unfold keysR at hR2
                rw [List.length_map] at hR2
                have hle2 : 2 * (tris.length - mapSize wr bR) + Q.length ≤ MU := by rw [hR2]; exact hle
                have Hhst := Lib.hid hst; clear hst; have Hhbfs := Lib.hid hbfs; clear hbfs; have Hhb2 := Lib.hid hb2; clear hb2; have Hhbox := Lib.hid hbox; clear hbox; have HhiR := Lib.hid hiR; clear hiR; have HhR2 := Lib.hid hR2; clear hR2
                go_wp2
                refine ⟨⟨R, Q, Hhst.out, Hhb2.out, by omega, Hhbox.out, hbel⟩, ?_⟩
                have h9 := Hhmu2.out
                simp only [sliceLen]
                omega
end Go.Proofs.Ytckkpmjkajkkmaa
