/- A cutter's block and rows while it counts. Walks: cutter.part. Walks: cut.Along. -/
import Derived.Test.YtpbdcppaiafbgaaGreatIA
import Derived.Test.YtpbdcppaiafbgaaGreatHP
import Derived.Test.YtpbdcppaiafbgaaGreatID
import Derived.Test.YtpbdcppaiafbgaaGreatSG
namespace Go.Proofs.YtpbdcppaiafbgaaGreat
open Go Go.RowKit Go.Words Go.Mesh
theorem own_put {W : World} {base n cap size : Nat} {e : TypeId} {a : Nat} {xs : List Value} (h : W.ownsRow base e size (.slice (some ⟨a, 0, none⟩) n cap) n xs) (i : Nat) (u : Value) : (W.setCell ⟨a, i, none⟩ u).ownsRow base e size (.slice (some ⟨a, 0, none⟩) n cap) n (xs.set i u) := by
  refine ⟨by rw [List.length_set]; exact h.1, ?_⟩
  rcases h.2 with ⟨h1, _⟩ | ⟨g', cap', cur, h1, hb, hg, hle, hmax, hsz, hx⟩
  · cases h1
  · injection h1 with h1 _ h2
    injection h1 with h1
    injection h1 with h1
    subst h1; subst h2
    have hbk : Bk W a e cur.toList := by unfold Bk; rw [hg]
    have h2 := hbk.set i u
    unfold Bk at h2
    exact .inr ⟨a, cap, (cur.toList.set i u).toArray, rfl, hb, h2, hle, hmax, by simpa using hsz, by rw [← hx, List.take_set]⟩
theorem grow_cell (W : World) (b i : Nat) (v : Value) : W.grownBy (W.setCell ⟨b, i, none⟩ v) (some b) :=
  ⟨rfl, rfl, rfl, (KeepsOthers.setCell W ⟨b, i, none⟩ v).size, fun k _ h => Below.heap_setCell W ⟨b, i, none⟩ v k fun e => h (by rw [e])⟩
theorem own_bk {w : World} {g base size n : Nat} {t e : TypeId} {v : Value} {xs cs : List Value} (ho : w.ownsRow base e size v n xs) (hb : Bk w g t cs) (hne : e ≠ t) : v.ownBlock = none ∨ v.ownBlock ≠ some g := by
  rcases ho.2 with ⟨rfl, _⟩ | ⟨g', cap', cur', rfl, _, hh, _⟩
  · exact .inl rfl
  · refine .inr fun he => ?_
    have : g' = g := by simpa [Value.ownBlock] using he
    subst this
    unfold Bk at hb
    rw [hb] at hh
    injection hh with h2
    injection h2 with _ h3
    exact hne h3.symm
theorem flat3_some {X : List T3} {j : Nat} (hj : j < 3 * X.length) : (flat3 X)[j]? = some (.int .i64 (Mesh.vt X j)) := by
  have hl : j < (flat3 X).length := by rw [flat3_len]; omega
  obtain ⟨_, h⟩ := flat3_get X j _ (List.getElem?_eq_getElem hl)
  rw [List.getElem?_eq_getElem hl, h]
theorem flat3_set (f : Nat → Int) {n c : Nat} (hc : c < 3 * n) (u : Int) : (flat3 (relab f n)).set c (.int .i64 u) = flat3 (relab (fun d => if d = c then u else f d) n) := by
  refine List.ext_getElem? fun j => ?_
  by_cases hj : j < 3 * n
  · rw [flat3_some (by rw [relab_len]; exact hj), vt_relab _ hj, List.getElem?_set]
    by_cases h : c = j
    · subst h
      rw [if_pos rfl, if_pos (by rw [flat3_len, relab_len]; omega), if_pos rfl]
    · rw [if_neg h, if_neg (fun h9 => h h9.symm), flat3_some (by rw [relab_len]; exact hj), vt_relab _ hj]
  · rw [List.getElem?_eq_none (by rw [List.length_set, flat3_len, relab_len]; omega), List.getElem?_eq_none (by rw [flat3_len, relab_len]; omega)]
theorem mp_own {w : World} {b base size n : Nat} {t : TypeId} {v : Value} {xs : List Value} {κ α : Type} {enc : κ → Value} {ok : κ → Prop} {ev : α → Value} {l : List (κ × α)} (hm : Mp enc ok ev w b l) (ho : w.ownsRow base t size v n xs) : some b ≠ v.ownBlock := fun e => by
  obtain ⟨es, ck, hb, _⟩ := hm.block
  rcases own_non ho (row := some b) (fun r hr => by injection hr with hr; subst hr; exact ⟨_, hb, rfl⟩) with h | h
  · rw [h] at e; cases e
  · exact h e.symm
section
variable {w w' w1 : World} {B g bc be : Nat} {tv sv wv sv' wv' : Value} {N n n' : Int} {T X X' : List T3} {L : List (Int × Int)} {O O' : List Int}
theorem Ctr.move (h : Ctr w B g bc be tv N T L n sv wv X O) (hb : Bk w' g 106 [tv, .map (some bc), .map (some be), .int .i64 n', sv', wv']) (ht : Below B w w') (hc : w'.heap[bc]? = w.heap[bc]?) (he : w'.heap[be]? = w.heap[be]?)
    (hs : w'.ownsRow B 57 3 sv' X'.length (flat3 X')) (hw : w'.ownsRow B 3 1 wv' O'.length (ivals O')) : Ctr w' B g bc be tv N T L n' sv' wv' X' O' where
  blk := hb
  tab := h.tab.below ht (Nat.le_refl _)
  cuts := by obtain ⟨S, h1, h2⟩ := h.cuts; exact ⟨S, h1.keep hc, h2⟩
  ends := by obtain ⟨E, h1, h2⟩ := h.ends; exact ⟨E, h1.keep he, h2⟩
  sow := hs
  wow := hw
  le := h.le
  ne := h.ne
theorem Ctr.maps (h : Ctr w B g bc be tv N T L n sv wv X O) : g ≠ bc ∧ g ≠ be ∧ bc < w.heap.size ∧ be < w.heap.size ∧ some bc ≠ sv.ownBlock ∧ some be ≠ sv.ownBlock ∧ some bc ≠ wv.ownBlock ∧ some be ≠ wv.ownBlock := by
  obtain ⟨S, hS, _⟩ := h.cuts
  obtain ⟨E, hE, _⟩ := h.ends
  exact ⟨bk_ne_mp h.blk hS, bk_ne_mp h.blk hE, hS.lt, hE.lt, mp_own hS h.sow, mp_own hE h.sow, mp_own hS h.wow, mp_own hE h.wow⟩
theorem Ctr.grown (h : Ctr w B g bc be tv N T L n sv wv X O) (hown : w1.ownsRow B 3 1 wv' O'.length (ivals O')) (hg : w.grownBy w1 wv.ownBlock) :
    Bk w1 g 106 [tv, .map (some bc), .map (some be), .int .i64 n, sv, wv] ∧ Ctr (w1.setCell ⟨g, 5, none⟩ wv') B g bc be tv N T L n sv wv' X O' ∧ Below B w (w1.setCell ⟨g, 5, none⟩ wv') ∧
      ∀ k, k < w.heap.size → k ≠ g → some k ≠ wv.ownBlock → (w1.setCell ⟨g, 5, none⟩ wv').heap[k]? = w.heap[k]? := by
  obtain ⟨m1, m2, m3, m4, m5, m6, m7, m8⟩ := h.maps
  have hbk := h.blk.kept_own h.wow (by decide) hg
  have hbl : Below B w w1 := (Below.refl B w).grown hg h.tab.le fun k e => (h.wow.lt k e).1
  have hbl2 := hbl.setCell (p := ⟨g, 5, none⟩) h.le.1 wv'
  have hso := h.sow.kept hg (own_apart h.wow h.sow (by decide))
  have hfar : ∀ k, k < w.heap.size → k ≠ g → some k ≠ wv.ownBlock → (w1.setCell ⟨g, 5, none⟩ wv').heap[k]? = w.heap[k]? := fun k h1 h2 h3 => (Below.heap_setCell w1 ⟨g, 5, none⟩ wv' k h2).trans (hg.block k h1 h3)
  refine ⟨hbk, h.move (hbk.set 5 wv') hbl2 (hfar bc m3 (Ne.symm m1) m7) (hfar be m4 (Ne.symm m2) m8) ?_ ?_, hbl2, hfar⟩
  · exact hso.kept (grow_cell w1 g 5 wv') (own_bk hso hbk (by decide))
  · exact hown.kept (grow_cell w1 g 5 wv') (own_bk hown hbk (by decide))
theorem Ctr.count (h : Ctr w B g bc be tv N T L n sv wv X O) (n' : Int) : Ctr (w.setCell ⟨g, 3, none⟩ (.int .i64 n')) B g bc be tv N T L n' sv wv X O ∧ Below B w (w.setCell ⟨g, 3, none⟩ (.int .i64 n')) ∧
      ∀ k, k ≠ g → (w.setCell ⟨g, 3, none⟩ (.int .i64 n')).heap[k]? = w.heap[k]? := by
  obtain ⟨m1, m2, m3, m4, m5, m6, m7, m8⟩ := h.maps
  have hbl2 := (Below.refl B w).setCell (p := ⟨g, 3, none⟩) h.le.1 (.int .i64 n')
  have hfar : ∀ k, k ≠ g → (w.setCell ⟨g, 3, none⟩ (.int .i64 n')).heap[k]? = w.heap[k]? := fun k h2 => Below.heap_setCell w ⟨g, 3, none⟩ _ k h2
  exact ⟨h.move (h.blk.set 3 _) hbl2 (hfar bc (Ne.symm m1)) (hfar be (Ne.symm m2)) (h.sow.kept (grow_cell w g 3 _) (own_bk h.sow h.blk (by decide))) (h.wow.kept (grow_cell w g 3 _) (own_bk h.wow h.blk (by decide))), hbl2, hfar⟩
theorem Ctr.put {a cap : Nat} {f : Nat → Int} {m : Nat} (h : Ctr w B g bc be tv N T L n (.slice (some ⟨a, 0, none⟩) m cap) wv (relab f m) O) {c : Nat} (hc : c < 3 * m) (u : Int) :
    Ctr (w.setCell ⟨a, c, none⟩ (.int .i64 u)) B g bc be tv N T L n (.slice (some ⟨a, 0, none⟩) m cap) wv (relab (fun d => if d = c then u else f d) m) O ∧ Below B w (w.setCell ⟨a, c, none⟩ (.int .i64 u)) ∧
      ∀ k, k ≠ a → (w.setCell ⟨a, c, none⟩ (.int .i64 u)).heap[k]? = w.heap[k]? := by
  obtain ⟨m1, m2, m3, m4, m5, m6, m7, m8⟩ := h.maps
  have ho := h.sow
  rw [relab_len] at ho
  have hBa : B ≤ a := (ho.lt a rfl).1
  have hbl2 := (Below.refl B w).setCell (p := ⟨a, c, none⟩) hBa (.int .i64 u)
  have hfar : ∀ k, k ≠ a → (w.setCell ⟨a, c, none⟩ (.int .i64 u)).heap[k]? = w.heap[k]? := fun k h2 => Below.heap_setCell w ⟨a, c, none⟩ _ k h2
  have hga := own_bk ho h.blk (by decide)
  refine ⟨h.move ((hfar g ?_).trans h.blk) hbl2 (hfar bc ?_) (hfar be ?_) ?_ (h.wow.kept (grow_cell w a c _) (own_apart ho h.wow (by decide))), hbl2, hfar⟩
  · intro e; subst e
    rcases hga with h9 | h9
    · cases h9
    · exact h9 rfl
  · intro e; subst e; exact m5 rfl
  · intro e; subst e; exact m6 rfl
  · rw [relab_len, ← flat3_set f hc]
    exact own_put ho c _
end
end Go.Proofs.YtpbdcppaiafbgaaGreat

namespace Go.Proofs.YtpbdcppaiafbgaaGreat
open Go Go.RowKit Go.Words Go.Mesh
theorem hdV_few (T : List T3) (C : List (Int × Int)) (v : Int) : (hdV T C v).length ≤ 3 * T.length := by
  unfold hdV
  exact Nat.le_trans (List.length_filter_le _ _) (by rw [List.length_range]; exact Nat.le_refl _)
theorem take_fun {row : List Nat} {i : Nat} (n9 : Int) (f : Nat → Int) (h : i < row.length) : (fun c => if c = row[i] then n9 else if c ∈ row.take i then n9 else f c) = fun c => if c ∈ row.take (i + 1) then n9 else f c := funext fun c => by
  have hm : c ∈ row.take (i + 1) ↔ c ∈ row.take i ∨ c = row[i] := by rw [List.take_succ_eq_append_getElem h, List.mem_append, List.mem_singleton]
  by_cases h1 : c = row[i]
  · rw [if_pos h1, if_pos (hm.2 (.inr h1))]
  · rw [if_neg h1]
    by_cases h2 : c ∈ row.take i
    · rw [if_pos h2, if_pos (hm.2 (.inl h2))]
    · rw [if_neg h2, if_neg (fun h9 => (hm.1 h9).elim h2 h1)]
theorem ivals_snoc (O : List Int) (x : Int) : ivals (O ++ [x]) = ivals O ++ [.int .i64 x] := by unfold ivals; rw [List.map_append]; rfl
set_option maxRecDepth 40000 in
set_option maxHeartbeats 8000000 in
theorem part_calls {w : World} {B g bc be : Nat} {tv sv wv : Value} {N : Int} {T : List T3} {L : List (Int × Int)} (h : Ctr w B g bc be tv N T L N sv wv T []) (hs : Surf N T) (hgd : Mesh.Good T L) (hL : L.length ≤ 1000) :
    Calls Tryz.prog 66 #[.pointer (some ⟨g, 0, none⟩)] w fun e w' => e = .returned (.tuple #[]) ∧ (∃ wv', Ctr w' B g bc be tv N T L ((newO N T (L.map nm)).length : Nat) sv wv' (newX N T (L.map nm)) (newO N T (L.map nm))) ∧ Below B w w' := by
  have hN0 := hs.n0
  have hNm := hs.nmax
  have hTm := hs.tmax
  have c3 : w.cell? ⟨g, 3, none⟩ = some (.int .i64 N) := h.blk.cell 3
  have hBz := h.tab.le
  have hBl := Below.refl B w
  obtain ⟨M, hM⟩ : ∃ M : Nat, N = (M : Int) := ⟨N.toNat, by omega⟩
  have Hh := Lib.hid h; clear h; have HhBl := Lib.hid hBl; clear hBl
  go_enter Tryz.func66, Tryz.ntmps66
  go_wp2_with fail
  go_loopw [15] (fun iv wr => ∃ k : Nat, ∃ wv', (k : Int) ≤ N ∧ iv = .int .i64 (k : Int) ∧ Ctr wr B g bc be tv N T L N sv wv' T ((List.range k).map fun v : Nat => (v : Int)) ∧ Below B w wr) (fun iv _ => N.toNat - (intOf iv).toNat)
  case atStart => exact ⟨0, wv, by omega, rfl, Hh.out, HhBl.out⟩
  case round =>
    obtain ⟨k, wv1, hk, rfl, hC, hbl⟩ := hrel
    by_cases hkn : (k : Int) < N
    · have hO : ((List.range k).map fun v : Nat => (v : Int)).length = k := by simp
      have hO1 : ((List.range (k + 1)).map fun v : Nat => (v : Int)) = ((List.range k).map fun v : Nat => (v : Int)) ++ [(k : Int)] := by rw [List.range_succ, List.map_append]; rfl
      have hown := hC.wow
      rw [hO] at hown
      generalize ((List.range k).map fun v : Nat => (v : Int)) = O1 at *
      have e5 : wr.cell? ⟨g, 5, none⟩ = some wv1 := hC.blk.cell 5
      have hgl := hC.blk.lt
      have hBr := hC.tab.le
      have HhC := Lib.hid hC; clear hC; have Hhbl := Lib.hid hbl; clear hbl; have Hhown := Lib.hid hown; clear hown; have HhO := Lib.hid hO; clear hO; have HhO1 := Lib.hid hO1; clear hO1
      go_wp2_with (at_builtin; refine append_block _ rfl (.tmp 22) (.tmp 24) 28 rfl B info_int Tryz.underlying28 rfl (by decide) _ k (ivals O1) rfl (Hhown.out.alloc _) wr.heap.size [.int .i64 k] rfl (Bk.new _ _ _) rfl (by simp [Value.oneCell']) (by omega) (by omega) (by simp; omega) ?_; intro v1 w5 hown5 hb5 hg5 _; obtain ⟨gv, cv, rfl⟩ := ownsRow_succ hown5; obtain ⟨q1, q2, q3, q4⟩ := (HhC.out.below ((Below.refl wr.heap.size wr).alloc (Nat.le_refl _) (.cells #[.int .i64 (k : Int)] 3))).grown (O' := O1 ++ [(k : Int)]) (by rw [ivals_snoc, List.length_append, HhO.out]; exact hown5) hg5; have q5 := q1.cell 5; have q6 := q1.frozen 5; simp only [List.getElem?_cons_succ, List.getElem?_cons_zero] at q5; have q7 := Hhbl.out.trans (((Below.refl B wr).alloc hBr _).trans q3); have Hq1 := Lib.hid q1; clear q1; have Hq2 := Lib.hid q2; clear q2; have Hq3 := Lib.hid q3; clear q3; have Hq4 := Lib.hid q4; clear q4; have Hq7 := Lib.hid q7; clear q7)
      exact ⟨⟨k + 1, _, by omega, by simp, by rw [HhO1.out]; exact Hq2.out, Hq7.out⟩, by simp [intOf]; omega⟩
    · obtain rfl : k = M := by omega
      have hC1 : Ctr wr B g bc be tv N T L (N + ((exH T (L.map nm) 0).length : Nat)) sv wv1 (relab (numE N T (L.map nm) (exH T (L.map nm) 0)) T.length) (outO T N.toNat (exH T (L.map nm) 0)) := by
        have e1 : exH T (L.map nm) 0 = [] := rfl
        rw [e1, numE_nil, relab_vt]
        unfold outO
        rw [show N.toNat = k by omega]
        simpa using hC
      clear hC
      have HhC1 := Lib.hid hC1; clear hC1; have Hhbl := Lib.hid hbl; clear hbl; have HhM := Lib.hid hM; clear hM
      go_wp2_with fail
      go_loopw [30] (fun iv wq => ∃ v : Nat, ∃ wv', (v : Int) ≤ N ∧ iv = .int .i64 (v : Int) ∧ Ctr wq B g bc be tv N T L (N + ((exH T (L.map nm) v).length : Nat)) sv wv' (relab (numE N T (L.map nm) (exH T (L.map nm) v)) T.length) (outO T N.toNat (exH T (L.map nm) v)) ∧ Below B w wq) (fun iv _ => N.toNat - (intOf iv).toNat)
      case atStart => exact ⟨0, wv1, by omega, rfl, HhC1.out, Hhbl.out⟩
      case round =>
        obtain ⟨v, wv2, hv, rfl, hC, hblq⟩ := hrel
        clear HhC1 Hhbl
        by_cases hvn : (v : Int) < N
        · obtain ⟨E, hE1, hE2⟩ := hC.ends
          have hEv := hE2 (v : Int)
          have e2 : wr.cell? ⟨g, 2, none⟩ = some (.map (some be)) := hC.blk.cell 2
          obtain ⟨ne, hne⟩ : ∃ ne, endsC L (v : Int) = ne := ⟨_, rfl⟩
          rw [hne] at hEv
          have hnl : ne ≤ 1000 := by have := endsC_le L (v : Int); omega
          have hvo : I64 (v : Int) := by unfold I64; omega
          by_cases h0 : ne = 0
          · have hskip := exH_skip hs hgd hvn (by rw [hne, h0])
            have HhE1 := Lib.hid hE1; clear hE1; have HhE2 := Lib.hid hE2; clear hE2; have HhC := Lib.hid hC; clear hC; have Hhblq := Lib.hid hblq; clear hblq; have Hhne := Lib.hid hne; clear hne; have Hhskip := Lib.hid hskip; clear hskip
            go_wp2_with (at_lookup; refine wpList_look _ rfl _ _ 104 rfl 3 3 keyI Tryz.underlying104 zero_int be E rfl HhE1.out (v : Int) rfl hvo ?_; rw [look_num hEv])
            all_goals first | (exfalso; omega) | skip
            exact ⟨⟨v + 1, wv2, by omega, by simp, by rw [Hhskip.out]; exact HhC.out, Hhblq.out⟩, by simp [intOf]; omega⟩
          · have hse := sectors_calls hC hs (v : Int) ⟨by omega, hvn⟩
            have HhE2 := Lib.hid hE2; clear hE2; have HhC := Lib.hid hC; clear hC; have Hhblq := Lib.hid hblq; clear hblq; have Hhne := Lib.hid hne; clear hne; have Hhse := Lib.hid hse; clear hse
            go_wp2_with (at_lookup; refine wpList_look _ rfl _ _ 104 rfl 3 3 keyI Tryz.underlying104 zero_int be E rfl hE1 (v : Int) rfl hvo ?_; rw [look_num hEv])
            all_goals first | (exfalso; omega) | skip
            refine Hhse.out.mono ?_
            rintro e wS ⟨⟨r, S, rfl, hsec, hfr⟩, hbS⟩
            obtain ⟨aS, capS, rfl, hfc, haS1, haS2, hrows⟩ := hfr
            have hCS := HhC.out.below hbS
            have hblS := Hhblq.out.trans (hbS.mono HhC.out.tab.le)
            have hgw := HhC.out.blk.lt
            have hvb : ∀ k, wv2.ownBlock = some k → k < wr.heap.size ∨ wS.heap.size ≤ k := fun k e9 => .inl (HhC.out.wow.lt k e9).2
            have hvs : ∀ k, sv.ownBlock = some k → k < wr.heap.size := fun k e9 => (HhC.out.sow.lt k e9).2
            have hzS := hbS.size
            obtain ⟨lo, hlo⟩ : ∃ lo, lo = wr.heap.size := ⟨_, rfl⟩
            rw [← hlo] at hvb hvs haS1 hrows hgw hzS
            clear hlo
            have hSl : S.length ≤ 30000 := by have := hdV_few T (L.map nm) (v : Int); have := hsec.1; omega
            have Hhsec := Lib.hid hsec; clear hsec; have Hhrows := Lib.hid hrows; clear hrows; have HhCS := Lib.hid hCS; clear hCS; have HhblS := Lib.hid hblS; clear hblS; have Hhvb := Lib.hid hvb; clear hvb; have Hhvs := Lib.hid hvs; clear hvs
            go_wp2_with fail
            go_loopw [44] (fun iv wq => ∃ j : Nat, ∃ wv', j ≤ S.length ∧ iv = .int .i64 (j : Int) ∧ Ctr wq B g bc be tv N T L (N + ((parH T (L.map nm) v j).length : Nat)) sv wv' (relab (numE N T (L.map nm) (parH T (L.map nm) v j)) T.length) (outO T N.toNat (parH T (L.map nm) v j)) ∧ Below B w wq ∧ wS.heap.size ≤ wq.heap.size ∧ (∀ k, lo ≤ k → k < wS.heap.size → wq.heap[k]? = wS.heap[k]?) ∧ ∀ k, wv'.ownBlock = some k → k < lo ∨ wS.heap.size ≤ k) (fun iv _ => S.length - (intOf iv).toNat)
            case atStart => exact ⟨0, wv2, by omega, rfl, by rw [parH_zero]; exact HhCS.out, HhblS.out, Nat.le_refl _, fun _ _ _ => rfl, Hhvb.out⟩
            case round =>
              obtain ⟨j, wv3, hj, rfl, hC3, hbl3, hz3, hk3, hvb3⟩ := hrel
              by_cases hjl : j < S.length
              · obtain ⟨b, o, c9, hrc, hb1, hb2, hlc, hrl, hcells⟩ := Hhrows.out j hjl
                have hrc3 : wr.cell? ⟨aS, j, none⟩ = some (.slice (some ⟨b, o, none⟩) S[j].length c9) := (cell_of_block (hk3 aS haS1 haS2)).trans hrc
                have hHl : j < (hdV T (L.map nm) (v : Int)).length := by rw [← Hhsec.out.1]; exact hjl
                have hrow := Hhsec.out.2 j S[j] _ (List.getElem?_eq_getElem hjl) (List.getElem?_eq_getElem hHl)
                by_cases hj0 : j = 0
                · subst hj0
                  have hp1 : parH T (L.map nm) v 1 = parH T (L.map nm) v 0 := by rw [parH_one, parH_zero]
                  generalize S[0] = row at *
                  have HhC3 := Lib.hid hC3; clear hC3; have Hhbl3 := Lib.hid hbl3; clear hbl3; have Hhk3 := Lib.hid hk3; clear hk3; have Hhvb3 := Lib.hid hvb3; clear hvb3; have Hhp1 := Lib.hid hp1; clear hp1; have Hhcells := Lib.hid hcells; clear hcells; have Hhrow := Lib.hid hrow; clear hrow; have Hhrc := Lib.hid hrc; clear hrc
                  go_wp2_with fail
                  exact ⟨⟨1, wv3, by omega, rfl, by rw [Hhp1.out]; exact HhC3.out, Hhbl3.out, hz3, Hhk3.out, Hhvb3.out⟩, by simp [intOf]; omega⟩
                · obtain ⟨p1, p2, p3, p4, p5⟩ := parH_step hs hvn (by omega) (List.getElem?_eq_getElem hHl)
                  have pl := parH_few (T := T) (C := L.map nm) v j
                  have hrel0 := relab_row (N := N) (n := T.length) p2 p3 p4 hrow
                  generalize (hdV T (L.map nm) (v : Int))[j] = hh at *
                  generalize S[j] = row at *
                  generalize parH T (L.map nm) v j = H at *
                  obtain ⟨n9, hn9⟩ : ∃ n9, n9 = N + (H.length : Nat) := ⟨_, rfl⟩
                  have hn9l : 0 ≤ n9 ∧ n9 ≤ 50000 := by omega
                  rw [← hn9] at hrel0
                  have hC4 : Ctr wr B g bc be tv N T L n9 sv wv3 (relab (fun c => if c ∈ row.take 0 then n9 else numE N T (L.map nm) H c) T.length) (outO T N.toNat H) := by
                    have h9 := hC3
                    rw [← hn9] at h9
                    have e9 : (fun c => if c ∈ row.take 0 then n9 else numE N T (L.map nm) H c) = numE N T (L.map nm) H := funext fun c => by simp
                    rw [e9]; exact h9
                  clear hC3
                  have HhC4 := Lib.hid hC4; clear hC4; have Hhbl3 := Lib.hid hbl3; clear hbl3; have Hhk3 := Lib.hid hk3; clear hk3; have Hhvb3 := Lib.hid hvb3; clear hvb3; have Hp1 := Lib.hid p1; clear p1; have Hp2 := Lib.hid p2; clear p2; have Hp3 := Lib.hid p3; clear p3; have Hp4 := Lib.hid p4; clear p4; have Hp5 := Lib.hid p5; clear p5; have Hhcells := Lib.hid hcells; clear hcells; have Hhrow := Lib.hid hrow; clear hrow; have Hhrc := Lib.hid hrc; clear hrc; have Hhrel0 := Lib.hid hrel0; clear hrel0; have Hhn9 := Lib.hid hn9; clear hn9
                  go_wp2_with fail
                  go_loopw [53] (fun iv wq => ∃ i : Nat, i ≤ row.length ∧ iv = .int .i64 (i : Int) ∧ Ctr wq B g bc be tv N T L n9 sv wv3 (relab (fun c => if c ∈ row.take i then n9 else numE N T (L.map nm) H c) T.length) (outO T N.toNat H) ∧ Below B w wq ∧ wS.heap.size ≤ wq.heap.size ∧ (∀ k, lo ≤ k → k < wS.heap.size → wq.heap[k]? = wS.heap[k]?)) (fun iv _ => row.length - (intOf iv).toNat)
                  case atStart => exact ⟨0, by omega, rfl, HhC4.out, Hhbl3.out, hz3, Hhk3.out⟩
                  case round =>
                    obtain ⟨i, hi, rfl, hCz, hblz, hzz, hkz⟩ := hrel
                    obtain ⟨wz, hwz⟩ : ∃ wz, wz = wr := ⟨_, rfl⟩
                    subst hwz
                    by_cases hil : i < row.length
                    · have hcc := (cell_of_block (hkz b hb1 hb2)).trans (Hhcells.out i hil)
                      have hc3 := ((Hhrow.out row[i]).1 (List.getElem_mem hil)).1
                      have hnext := take_fun n9 (numE N T (L.map nm) H) hil
                      have hso0 := hCz.sow
                      rw [relab_len] at hso0
                      obtain ⟨a, cap, hsv, haB, haz⟩ := own_some hso0 (by omega)
                      clear hso0
                      subst hsv
                      obtain ⟨A9, cap9, e9, hcap9⟩ := own_form hCz.sow
                      rw [relab_len] at hcap9
                      have hcap : T.length ≤ cap := by injection e9 with _ _ e8; omega
                      clear e9 hcap9
                      have hlo9 := Hhvs.out a rfl
                      obtain ⟨d, q, hd, hq, hq3, hdq⟩ : ∃ d q : Nat, ((row[i] : Nat) : Int) / 3 = (d : Int) ∧ ((row[i] : Nat) : Int) % 3 = (q : Int) ∧ q < 3 ∧ row[i] = d * 3 + q := ⟨row[i] / 3, row[i] % 3, by omega, by omega, by omega, by omega⟩
                      have hdl : d < T.length := by omega
                      have e3 : wz.cell? ⟨g, 3, none⟩ = some (.int .i64 n9) := hCz.blk.cell 3
                      have e4 : wz.cell? ⟨g, 4, none⟩ = some (.slice (some ⟨a, 0, none⟩) T.length cap) := hCz.blk.cell 4
                      have hga : g ≠ a := fun e8 => by
                        rcases own_bk hCz.sow hCz.blk (by decide) with h9 | h9
                        · cases h9
                        · exact h9 (by rw [e8]; rfl)
                      have hso9 := hCz.sow
                      rw [relab_len] at hso9
                      have hst : wz.cell? ⟨a, d * 3 + q, none⟩ = some (.int .i64 (Mesh.vt (relab (fun c => if c ∈ row.take i then n9 else numE N T (L.map nm) H c) T.length) (d * 3 + q))) := by
                        rw [hso9.cellAt _ (by omega)]
                        exact flat3_some (by rw [relab_len]; omega)
                      have hfz := hso9.frozenAt (d * 3 + q)
                      have hfz2 : wz.drew.frozen? ⟨a, d * 3 + q, none⟩ = false := hfz
                      rw [hdq] at hnext hcc
                      have hcl : row[i] ≤ 30000 := by omega
                      generalize row[i] = c at *
                      generalize Mesh.vt (relab (fun c => if c ∈ row.take i then n9 else numE N T (L.map nm) H c) T.length) (d * 3 + q) = old at *
                      have hadr : (d * 3 + q) / 3 * 3 + q % 3 = d * 3 + q := by omega
                      have HhCz := Lib.hid hCz; clear hCz; have Hhblz := Lib.hid hblz; clear hblz; have Hhkz := Lib.hid hkz; clear hkz; have Hhnext := Lib.hid hnext; clear hnext; have Hhso9 := Lib.hid hso9; clear hso9
                      go_wp2_with fail
                      refine Go.Canon.wp_region_tree [4, 13] (fun b9 => b9 = g) (.seg [0,5,6,7,8,9] (.alt 1 (.seg [2,3,4,14] (.alt 10 (.seg [11,12,13,15] (.alt 16 .fin .no)) .no)) (.alt 10 (.seg [11,12,13] (.alt 1 (.seg [2,3,4,14,15] (.alt 16 .fin .no)) .no)) .no))) mixed (by kernel_rfl) ?_
                      refine Go.Canon.tr_seg ?_
                      simp only [List.map_cons, List.map_nil, List.getD_cons_zero, List.getD_cons_succ]
                      go_wp2_with fail
                      refine Go.Canon.tr_to (Go.Canon.tr_alt ?_ (Go.Canon.tr_one ?_))
                      · simp only [List.getD_cons_zero, List.getD_cons_succ]
                        go_wp2_with fail
                        refine Go.Canon.tr_end (fun _ _ => rfl) (Go.Canon.tr_seg ?_)
                        simp only [List.map_cons, List.map_nil, List.getD_cons_zero, List.getD_cons_succ]
                        go_wp2_with fail
                        refine Go.Canon.tr_to (Go.Canon.tr_one ?_)
                        simp only [List.getD_cons_zero, List.getD_cons_succ]
                        go_wp2_with fail
                        refine Go.Canon.tr_end (fun _ _ => rfl) (Go.Canon.tr_seg ?_)
                        simp only [List.map_cons, List.map_nil, List.getD_cons_zero, List.getD_cons_succ]
                        go_wp2_with fail
                        refine Go.Canon.tr_to (Go.Canon.tr_one ?_)
                        simp only [List.getD_cons_zero, List.getD_cons_succ]
                        go_wp2_with fail
                        refine Go.Canon.tr_end (fun b9 hb9 => by subst hb9; exact Below.heap_setCell wz.drew ⟨a, d * 3 + q, none⟩ _ b9 (by show b9 ≠ a; exact hga)) (Go.Canon.tr_fin (by rfl) (List.forall_mem_cons.2 ⟨.inl ⟨_, rfl, rfl, by rw [World.cell?_drew, e4]; rfl⟩, List.forall_mem_cons.2 ⟨.inl ⟨_, rfl, rfl, by rw [World.cell?_drew, e3]; rfl⟩, fun _ h => by cases h⟩⟩) ?_)
                        obtain ⟨t1, t2, t3⟩ := (HhCz.out.below (Below.refl wz.heap.size wz).drew).put (c := d * 3 + q) (by omega) n9
                        have t4 := Hhblz.out.trans ((Below.refl B wz).drew.trans t2)
                        have t5 : ∀ k, k ≠ a → (wz.drew.setCell ⟨a, d * 3 + q, none⟩ (.int .i64 n9)).heap[k]? = wz.heap[k]? := t3
                        have t6 : wz.heap.size ≤ (wz.drew.setCell ⟨a, d * 3 + q, none⟩ (.int .i64 n9)).heap.size := (KeepsOthers.setCell wz.drew ⟨a, d * 3 + q, none⟩ (.int .i64 n9)).size
                        have Ht1 := Lib.hid t1; clear t1; have Ht2 := Lib.hid t2; clear t2; have Ht3 := Lib.hid t3; clear t3; have Ht4 := Lib.hid t4; clear t4; have Ht5 := Lib.hid t5; clear t5
                        go_wp2_with fail
                        refine ⟨⟨i + 1, by omega, by simp, ?_, Ht4.out, Nat.le_trans hzz t6, ?_⟩, by simp [intOf]; omega⟩
                        · have h9 := Ht1.out
                          rw [Hhnext.out] at h9
                          exact h9
                        · exact fun k9 h1 h2 => (Ht5.out k9 (by omega)).trans (Hhkz.out k9 h1 h2)
                      · simp only [List.getD_cons_zero, List.getD_cons_succ]
                        go_wp2_with fail
                        refine Go.Canon.tr_end (fun _ _ => rfl) (Go.Canon.tr_seg ?_)
                        simp only [List.map_cons, List.map_nil, List.getD_cons_zero, List.getD_cons_succ]
                        go_wp2_with fail
                        refine Go.Canon.tr_to (Go.Canon.tr_one ?_)
                        simp only [List.getD_cons_zero, List.getD_cons_succ]
                        go_wp2_with fail
                        refine Go.Canon.tr_end (fun _ _ => rfl) (Go.Canon.tr_seg ?_)
                        simp only [List.map_cons, List.map_nil, List.getD_cons_zero, List.getD_cons_succ]
                        go_wp2_with fail
                        refine Go.Canon.tr_to (Go.Canon.tr_one ?_)
                        simp only [List.getD_cons_zero, List.getD_cons_succ]
                        go_wp2_with fail
                        refine Go.Canon.tr_end (fun b9 hb9 => by subst hb9; exact Below.heap_setCell wz.drew ⟨a, d * 3 + q, none⟩ _ b9 (by show b9 ≠ a; exact hga)) (Go.Canon.tr_fin (by rfl) (List.forall_mem_cons.2 ⟨.inl ⟨_, rfl, rfl, by rw [World.cell?_drew, e4]; rfl⟩, List.forall_mem_cons.2 ⟨.inl ⟨_, rfl, rfl, by rw [World.cell?_drew, e3]; rfl⟩, fun _ h => by cases h⟩⟩) ?_)
                        obtain ⟨t1, t2, t3⟩ := (HhCz.out.below (Below.refl wz.heap.size wz).drew).put (c := d * 3 + q) (by omega) n9
                        have t4 := Hhblz.out.trans ((Below.refl B wz).drew.trans t2)
                        have t5 : ∀ k, k ≠ a → (wz.drew.setCell ⟨a, d * 3 + q, none⟩ (.int .i64 n9)).heap[k]? = wz.heap[k]? := t3
                        have t6 : wz.heap.size ≤ (wz.drew.setCell ⟨a, d * 3 + q, none⟩ (.int .i64 n9)).heap.size := (KeepsOthers.setCell wz.drew ⟨a, d * 3 + q, none⟩ (.int .i64 n9)).size
                        have Ht1 := Lib.hid t1; clear t1; have Ht2 := Lib.hid t2; clear t2; have Ht3 := Lib.hid t3; clear t3; have Ht4 := Lib.hid t4; clear t4; have Ht5 := Lib.hid t5; clear t5
                        go_wp2_with fail
                        refine ⟨⟨i + 1, by omega, by simp, ?_, Ht4.out, Nat.le_trans hzz t6, ?_⟩, by simp [intOf]; omega⟩
                        · have h9 := Ht1.out
                          rw [Hhnext.out] at h9
                          exact h9
                        · exact fun k9 h1 h2 => (Ht5.out k9 (by omega)).trans (Hhkz.out k9 h1 h2)
                    · obtain rfl : i = row.length := by omega
                      rw [List.take_length, Hhrel0.out, ← Hp1.out] at hCz
                      have hob : outO T N.toNat (parH T (L.map nm) v (j + 1)) = outO T N.toNat H ++ [(v : Int)] := by rw [Hp1.out, outO_snoc, Hp5.out]
                      have hol : (outO T N.toNat H).length = N.toNat + H.length := outO_len _ _ _
                      have hown := hCz.wow
                      obtain ⟨m9, hm9⟩ : ∃ m9, (outO T N.toNat H).length = m9 := ⟨_, rfl⟩
                      rw [hm9] at hown hol
                      have hn9' : N + ((parH T (L.map nm) v (j + 1)).length : Nat) = n9 + 1 := by rw [Hp1.out, List.length_append, List.length_singleton, Hhn9.out]; omega
                      generalize outO T N.toNat H = O1 at *
                      have e5 : wz.cell? ⟨g, 5, none⟩ = some wv3 := hCz.blk.cell 5
                      have hgl := hCz.blk.lt
                      have hBr := hCz.tab.le
                      have hm9l : m9 ≤ 60000 := by omega
                      clear hol
                      have HhCz := Lib.hid hCz; clear hCz; have Hhblz := Lib.hid hblz; clear hblz; have Hhkz := Lib.hid hkz; clear hkz; have Hhown := Lib.hid hown; clear hown; have Hhob := Lib.hid hob; clear hob; have Hhm9 := Lib.hid hm9; clear hm9; have Hhn9' := Lib.hid hn9'; clear hn9'
                      go_wp2_with (at_builtin; refine append_block _ rfl (.tmp 78) (.tmp 80) 28 rfl B info_int Tryz.underlying28 rfl (by decide) _ m9 (ivals O1) rfl (Hhown.out.alloc _) wz.heap.size [.int .i64 v] rfl (Bk.new _ _ _) rfl (by simp [Value.oneCell']) (by omega) (by omega) (by simp; omega) ?_)
                      intro v1 w5 hown5 hb5 hg5 hat5
                      obtain ⟨gv, cv, rfl⟩ := ownsRow_succ hown5
                      obtain ⟨q1, q2, q3, q4⟩ := (HhCz.out.below ((Below.refl wz.heap.size wz).alloc (Nat.le_refl _) (.cells #[.int .i64 (v : Int)] 3))).grown (O' := O1 ++ [(v : Int)]) (by rw [ivals_snoc, List.length_append, Hhm9.out]; exact hown5) hg5
                      have q5 := q1.cell 5
                      have q6 := q1.frozen 5
                      simp only [List.getElem?_cons_succ, List.getElem?_cons_zero] at q5
                      have q7 := Hhblz.out.trans (((Below.refl B wz).alloc hBr _).trans q3)
                      have r3 := q2.blk.cell 3
                      have r4 := q2.blk.frozen 3
                      simp only [List.getElem?_cons_succ, List.getElem?_cons_zero] at r3
                      obtain ⟨c1, c2, c3⟩ := q2.count (n9 + 1)
                      have hgz : wz.heap.size + 1 ≤ w5.heap.size := by (have := hg5.size; simpa using this)
                      have hz6 := (KeepsOthers.setCell w5 ⟨g, 5, none⟩ (.slice (some ⟨gv, 0, none⟩) (m9 + 1) cv)).size
                      have hz7 := (KeepsOthers.setCell (w5.setCell ⟨g, 5, none⟩ (.slice (some ⟨gv, 0, none⟩) (m9 + 1) cv)) ⟨g, 3, none⟩ (.int .i64 (n9 + 1))).size
                      have Hq1 := Lib.hid q1; clear q1; have Hq2 := Lib.hid q2; clear q2; have Hq3 := Lib.hid q3; clear q3; have Hq4 := Lib.hid q4; clear q4; have Hq7 := Lib.hid q7; clear q7; have Hc1 := Lib.hid c1; clear c1; have Hc2 := Lib.hid c2; clear c2; have Hc3 := Lib.hid c3; clear c3; have Hhat5 := Lib.hid hat5; clear hat5; have Hhg5 := Lib.hid hg5; clear hg5
                      go_wp2_with fail
                      refine ⟨⟨j + 1, .slice (some ⟨gv, 0, none⟩) (m9 + 1) cv, by omega, by simp, ?_, Hq7.out.trans Hc2.out, by omega, ?_, ?_⟩, by simp [intOf]; omega⟩
                      · rw [Hhob.out, Hhn9'.out]; exact Hc1.out
                      · intro k9 h1 h2
                        rw [Hc3.out k9 (by omega), Hq4.out k9 (by simp; omega) (by omega) (fun e9 => by rcases Hhvb3.out k9 e9.symm with h | h <;> omega)]
                        exact (Below.heap_alloc wz _ k9 (by omega)).trans (Hhkz.out k9 h1 h2)
                      · intro k9 e9
                        rcases Hhat5.out with h | h
                        · exact Hhvb3.out k9 (h.symm.trans e9)
                        · right
                          rw [h] at e9
                          have : wz.heap.size + 1 = k9 := by simpa using e9
                          omega
              · have hend : parH T (L.map nm) v j = exH T (L.map nm) (v + 1) := parH_end hs hvn (by rw [← Hhsec.out.1]; omega)
                rw [hend] at hC3
                have HhC3 := Lib.hid hC3; clear hC3; have Hhbl3 := Lib.hid hbl3; clear hbl3; have Hhk3 := Lib.hid hk3; clear hk3; have Hhvb3 := Lib.hid hvb3; clear hvb3; have Hhend := Lib.hid hend; clear hend
                go_wp2_with fail
                exact ⟨⟨v + 1, wv3, by omega, by simp, HhC3.out, Hhbl3.out⟩, by simp [intOf]; omega⟩
        · have hvN : N.toNat = v := by omega
          have hn9 : ((newO N T (L.map nm)).length : Int) = N + ((exH T (L.map nm) v).length : Nat) := by rw [newO_eq, outO_len, hvN]; omega
          have hX9 : newX N T (L.map nm) = relab (numE N T (L.map nm) (exH T (L.map nm) v)) T.length := by unfold newX; rw [newN_eq, hvN]
          have hO9 : newO N T (L.map nm) = outO T N.toNat (exH T (L.map nm) v) := by rw [newO_eq, hvN]
          have HhC := Lib.hid hC; clear hC; have Hhblq := Lib.hid hblq; clear hblq; have Hhn9 := Lib.hid hn9; clear hn9; have HhX9 := Lib.hid hX9; clear hX9; have HhO9 := Lib.hid hO9; clear hO9
          go_wp2_with fail
          (try simp only [Exit.inBlock, Exit.then]); refine bodyPost_end (results_none rfl _ _ _) rfl ?_
          exact ⟨rfl, ⟨wv2, by rw [Hhn9.out, HhX9.out, HhO9.out]; exact HhC.out⟩, Hhblq.out⟩
end Go.Proofs.YtpbdcppaiafbgaaGreat

namespace Go.Proofs.YtpbdcppaiafbgaaGreat
open Go Go.RowKit Go.Words Go.Mesh
theorem ret_cttt {P : Program} {fn : Func} {p q r s : Tmp} {ty : TypeId} (h : fn.results = #[.cell p ty, .tmp q, .tmp r, .tmp s]) {R : Ending → World → Prop} {a : Act} {w : World} {g : Nat} {t : TypeId} {cs : List Value} {d : TypeDesc}
    (hp : a.tmps.getD p undef = .pointer (some ⟨g, 0, none⟩)) (hg : Bk w g t cs) (hu : P.underlying ty = some d)
    (hd : (match d with | .struct _ | .array _ _ => true | _ => false) = true) (hi : (P.info? ty).map (·.size) = some cs.length) (hde : a.defers = [])
    (hR : R (.returned (.tuple #[.agg cs.toArray, a.tmps.getD q undef, a.tmps.getD r undef, a.tmps.getD s undef])) w) : bodyPost P fn R .ret a w := by
  refine bodyPost_ret ?_ hde hR
  have hp' : a.tmps[p]?.getD undef = .pointer (some ⟨g, 0, none⟩) := by simpa using hp
  simp [results, h, hp', asAddr, run_loadVar_row w g t ty cs.toArray (0, 0) d hg hu hd (by simpa using hi)]
abbrev failV (c : Int) : Value := .tuple #[.agg #[.int .i64 0, .slice none 0 0], .slice none 0 0, .slice none 0 0, .int .i64 c]
theorem build_soup0 (w : World) : (Instr.build 24 #[]).run Tryz.prog w = .ok (.agg #[.int .i64 0, .slice none 0 0]) w := by kernel_rfl
set_option maxHeartbeats 1000000 in
theorem fail_calls (c : Int) (w : World) : Calls Tryz.prog 60 #[.int .i64 c] w fun e w' => e = .returned (failV c) ∧ Below w.heap.size w w' := by
  have hk := (Bk.new w 24 [.int .i64 0, .slice none 0 0])
  have hb := (Below.refl w.heap.size w).alloc (Nat.le_refl _) (.cells #[.int .i64 0, .slice none 0 0] 24)
  have f0 := hk.frozen 0
  have e0 := hk.cell 0
  have e1 := hk.cell 1
  simp only [List.getElem?_cons_zero, List.getElem?_cons_succ] at e0 e1
  have hbs := build_soup0
  have Hhk := Lib.hid hk; clear hk; have Hhb := Lib.hid hb; clear hb
  go_enter Tryz.func60, Tryz.ntmps60
  go_wp2_with fail
  exact ret_cttt rfl rfl Hhk.out Tryz.underlying24 rfl (by kernel_rfl) rfl ⟨rfl, Hhb.out⟩
theorem own_low {w : World} {b b' size n : Nat} {e : TypeId} {v : Value} {xs : List Value} (hb : b' ≤ b) (h : w.ownsRow b e size v n xs) : w.ownsRow b' e size v n xs := by
  refine ⟨h.1, ?_⟩
  rcases h.2 with h1 | ⟨g', cap, cur, h1, h2, h3⟩
  · exact .inl h1
  · exact .inr ⟨g', cap, cur, h1, by omega, h3⟩
set_option maxHeartbeats 2000000 in
theorem soup_calls {w : World} {B : Nat} {tv : Value} {N : Int} {T : List T3} (h : Tab w B tv N T) :
    Calls Tryz.prog 62 #[tv] w fun e w' => (∃ v', e = .returned (.agg #[.int .i64 N, v']) ∧ w'.ownsRow w.heap.size 57 3 v' T.length (flat3 T)) ∧ Below w.heap.size w w' := by
  obtain ⟨g, vt, gm, vf, m, F, rfl, h8, _⟩ := h
  have hfew := h8.few
  have hgl : g < w.heap.size := h8.blk.lt
  have hBl := h8.le
  have hb1 := (Below.refl w.heap.size w).alloc (Nat.le_refl _) (.cells #[.int .i64 0, .slice none 0 0] 24)
  have hk1 := Bk.new w 24 [.int .i64 0, .slice none 0 0]
  have h81 := h8.below hb1 hBl
  obtain ⟨w1, hw1⟩ : ∃ w1, w1 = w.alloc (.cells #[.int .i64 0, .slice none 0 0] 24) := ⟨_, rfl⟩
  rw [← hw1] at hb1 hk1 h81
  have hz1 : w1.heap.size = w.heap.size + 1 := by rw [hw1]; simp
  have hk1l : w.heap.size < w1.heap.size := by omega
  have hg1 : g < w1.heap.size := by omega
  have c0 : w1.cell? ⟨g, 0, none⟩ = some (.int .i64 N) := h81.blk.cell 0
  have c1 : w1.cell? ⟨g, 1, none⟩ = some vt := h81.blk.cell 1
  have hcl := clone_calls (w := w1.drew) (h81.tris.below keeps_tri ((Below.refl B w1).drew)) hfew
  change Calls _ _ _ _ (fun e w' => (∃ v', e = .returned v' ∧ w'.ownsRow w1.heap.size 57 3 v' T.length (flat3 T)) ∧ Below w1.heap.size w1.drew w') at hcl
  obtain ⟨A, cap, hvt, hcap⟩ := h8.tris.form
  subst hvt
  have Hh8 := Lib.hid h8; clear h8; have Hh81 := Lib.hid h81; clear h81; have Hhk1 := Lib.hid hk1; clear hk1; have Hhb1 := Lib.hid hb1; clear hb1; have Hhcl := Lib.hid hcl; clear hcl
  go_enter Tryz.func62, Tryz.ntmps62
  go_wp2_with fail
  rw [← hw1]
  clear hw1
  refine Go.Canon.wp_region_tree [4, 9] (fun b9 => b9 = g) (.seg [0,5] (.alt 1 (.seg [2,3,4] (.alt 6 (.seg [7,8,9] (.alt 10 (.seg [11] (.alt 12 .fin .no)) .no)) .no)) (.alt 6 (.seg [7,8,9] (.alt 1 (.seg [2,3,4] (.alt 10 (.seg [11] (.alt 12 .fin .no)) .no)) (.alt 10 (.alt 1 (.seg [2,3,4,11] (.alt 12 .fin .no)) .no) .no))) .no))) mixed (by kernel_rfl) ?_
  refine Go.Canon.tr_seg ?_
  simp only [List.map_cons, List.map_nil, List.getD_cons_zero, List.getD_cons_succ]
  go_wp2_with fail
  refine Go.Canon.tr_to (Go.Canon.tr_alt ?_ (Go.Canon.tr_one ?_))
  · simp only [List.getD_cons_zero, List.getD_cons_succ]
    go_wp2_with fail
    refine Go.Canon.tr_end (fun _ _ => rfl) (Go.Canon.tr_seg ?_)
    simp only [List.map_cons, List.map_nil, List.getD_cons_zero, List.getD_cons_succ]
    go_wp2_with fail
    refine Go.Canon.tr_to (Go.Canon.tr_one ?_)
    simp only [List.getD_cons_zero, List.getD_cons_succ]
    go_wp2_with fail
    refine Go.Canon.tr_end (fun _ _ => rfl) (Go.Canon.tr_seg ?_)
    simp only [List.map_cons, List.map_nil, List.getD_cons_zero, List.getD_cons_succ]
    go_wp2_with fail
    refine Go.Canon.tr_to (Go.Canon.tr_one ?_)
    simp only [List.getD_cons_zero, List.getD_cons_succ]
    go_wp2_with fail
    refine Hhcl.out.mono ?_
    rintro e w2 ⟨⟨v', rfl, hown⟩, hb2⟩
    obtain ⟨A2, cap2, rfl, hcap2⟩ := own_form hown
    have hk2 := Hhk1.out.drew.below hb2 hk1l
    have f2 := hk2.frozen 0
    have f21 := hk2.frozen 1
    have s0 := hk2.cell 0
    have s1 := hk2.cell 1
    simp only [List.getElem?_cons_zero, List.getElem?_cons_succ] at s0 s1
    have d0 := (hb2.cell (p := ⟨g, 0, none⟩) hg1).trans c0
    have d1 := (hb2.cell (p := ⟨g, 1, none⟩) hg1).trans c1
    have hkg : Go.Canon.KeepU (fun b9 => b9 = g) w1.drew w2 := fun b9 h9 => by subst h9; exact hb2.block b9 hg1
    have Hhown := Lib.hid hown; clear hown; have Hhk2 := Lib.hid hk2; clear hk2; have Hhb2 := Lib.hid hb2; clear hb2; have Hhkg := Lib.hid hkg; clear hkg
    go_wp2_with fail
    refine Go.Canon.tr_end Hhkg.out (Go.Canon.tr_seg ?_)
    simp only [List.map_cons, List.map_nil, List.getD_cons_zero, List.getD_cons_succ]
    go_wp2_with fail
    refine Go.Canon.tr_to (Go.Canon.tr_one ?_)
    simp only [List.getD_cons_zero, List.getD_cons_succ]
    go_wp2_with fail
    refine Go.Canon.tr_end ?_ ?_
    · intro b9 h9
      subst h9
      exact ((((Below.refl w.heap.size w2).setCell (p := ⟨w.heap.size, 0, none⟩) (Nat.le_refl _) (.int .i64 N)).setCell (p := ⟨w.heap.size, 1, none⟩) (Nat.le_refl _) (.slice A2 T.length cap2)).block b9 hgl).trans (Hhkg.out b9 rfl)
    refine Go.Canon.tr_fin (by rfl) (List.forall_mem_cons.2 ⟨.inl ⟨_, rfl, rfl, by rw [World.cell?_drew, c0]; rfl⟩, List.forall_mem_cons.2 ⟨.inl ⟨_, rfl, rfl, by rw [World.cell?_drew, c1]; rfl⟩, fun _ h => by cases h⟩⟩) ?_
    have hk3 := (Hhk2.out.set 0 (.int .i64 N)).set 1 (.slice A2 T.length cap2)
    have hb3 := ((Hhb1.out.drew.trans (Hhb2.out.mono (by omega))).setCell (p := ⟨w.heap.size, 0, none⟩) (Nat.le_refl _) (.int .i64 N)).setCell (p := ⟨w.heap.size, 1, none⟩) (Nat.le_refl _) (.slice A2 T.length cap2)
    have ho3 := (Hhown.out.kept (grow_cell w2 w.heap.size 0 (.int .i64 N)) (own_bk Hhown.out Hhk2.out (by decide))).kept (grow_cell _ w.heap.size 1 (.slice A2 T.length cap2)) (own_bk Hhown.out Hhk2.out (by decide))
    have Hhk3 := Lib.hid hk3; clear hk3; have Hhb3 := Lib.hid hb3; clear hb3; have Hho3 := Lib.hid ho3; clear ho3
    go_wp2_with fail
    exact ret_cell rfl rfl Hhk3.out Tryz.underlying24 rfl (by kernel_rfl) rfl ⟨⟨_, rfl, own_low (by omega) Hho3.out⟩, Hhb3.out⟩
  · simp only [List.getD_cons_zero, List.getD_cons_succ]
    go_wp2_with fail
    refine Go.Canon.tr_end (fun _ _ => rfl) (Go.Canon.tr_seg ?_)
    simp only [List.map_cons, List.map_nil, List.getD_cons_zero, List.getD_cons_succ]
    go_wp2_with fail
    refine Go.Canon.tr_to (Go.Canon.tr_alt ?_ (Go.Canon.tr_one ?_))
    · simp only [List.getD_cons_zero, List.getD_cons_succ]
      go_wp2_with fail
      refine Go.Canon.tr_end (fun _ _ => rfl) (Go.Canon.tr_seg ?_)
      simp only [List.map_cons, List.map_nil, List.getD_cons_zero, List.getD_cons_succ]
      go_wp2_with fail
      refine Go.Canon.tr_to (Go.Canon.tr_one ?_)
      simp only [List.getD_cons_zero, List.getD_cons_succ]
      go_wp2_with fail
      refine Hhcl.out.mono ?_
      rintro e w2 ⟨⟨v', rfl, hown⟩, hb2⟩
      obtain ⟨A2, cap2, rfl, hcap2⟩ := own_form hown
      have hk2 := Hhk1.out.drew.below hb2 hk1l
      have f2 := hk2.frozen 0
      have f21 := hk2.frozen 1
      have s0 := hk2.cell 0
      have s1 := hk2.cell 1
      simp only [List.getElem?_cons_zero, List.getElem?_cons_succ] at s0 s1
      have d0 := (hb2.cell (p := ⟨g, 0, none⟩) hg1).trans c0
      have d1 := (hb2.cell (p := ⟨g, 1, none⟩) hg1).trans c1
      have hkg : Go.Canon.KeepU (fun b9 => b9 = g) w1.drew w2 := fun b9 h9 => by subst h9; exact hb2.block b9 hg1
      have Hhown := Lib.hid hown; clear hown; have Hhk2 := Lib.hid hk2; clear hk2; have Hhb2 := Lib.hid hb2; clear hb2; have Hhkg := Lib.hid hkg; clear hkg
      go_wp2_with fail
      refine Go.Canon.tr_end Hhkg.out (Go.Canon.tr_seg ?_)
      simp only [List.map_cons, List.map_nil, List.getD_cons_zero, List.getD_cons_succ]
      go_wp2_with fail
      refine Go.Canon.tr_to (Go.Canon.tr_one ?_)
      simp only [List.getD_cons_zero, List.getD_cons_succ]
      go_wp2_with fail
      refine Go.Canon.tr_end ?_ ?_
      · intro b9 h9
        subst h9
        exact ((((Below.refl w.heap.size w2).setCell (p := ⟨w.heap.size, 0, none⟩) (Nat.le_refl _) (.int .i64 N)).setCell (p := ⟨w.heap.size, 1, none⟩) (Nat.le_refl _) (.slice A2 T.length cap2)).block b9 hgl).trans (Hhkg.out b9 rfl)
      refine Go.Canon.tr_fin (by rfl) (List.forall_mem_cons.2 ⟨.inl ⟨_, rfl, rfl, by rw [World.cell?_drew, c0]; rfl⟩, List.forall_mem_cons.2 ⟨.inl ⟨_, rfl, rfl, by rw [World.cell?_drew, c1]; rfl⟩, fun _ h => by cases h⟩⟩) ?_
      have hk3 := (Hhk2.out.set 0 (.int .i64 N)).set 1 (.slice A2 T.length cap2)
      have hb3 := ((Hhb1.out.drew.trans (Hhb2.out.mono (by omega))).setCell (p := ⟨w.heap.size, 0, none⟩) (Nat.le_refl _) (.int .i64 N)).setCell (p := ⟨w.heap.size, 1, none⟩) (Nat.le_refl _) (.slice A2 T.length cap2)
      have ho3 := (Hhown.out.kept (grow_cell w2 w.heap.size 0 (.int .i64 N)) (own_bk Hhown.out Hhk2.out (by decide))).kept (grow_cell _ w.heap.size 1 (.slice A2 T.length cap2)) (own_bk Hhown.out Hhk2.out (by decide))
      have Hhk3 := Lib.hid hk3; clear hk3; have Hhb3 := Lib.hid hb3; clear hb3; have Hho3 := Lib.hid ho3; clear ho3
      go_wp2_with fail
      exact ret_cell rfl rfl Hhk3.out Tryz.underlying24 rfl (by kernel_rfl) rfl ⟨⟨_, rfl, own_low (by omega) Hho3.out⟩, Hhb3.out⟩
    · simp only [List.getD_cons_zero, List.getD_cons_succ]
      go_wp2_with fail
      refine Hhcl.out.mono ?_
      rintro e w2 ⟨⟨v', rfl, hown⟩, hb2⟩
      obtain ⟨A2, cap2, rfl, hcap2⟩ := own_form hown
      have hk2 := Hhk1.out.drew.below hb2 hk1l
      have f2 := hk2.frozen 0
      have f21 := hk2.frozen 1
      have s0 := hk2.cell 0
      have s1 := hk2.cell 1
      simp only [List.getElem?_cons_zero, List.getElem?_cons_succ] at s0 s1
      have d0 := (hb2.cell (p := ⟨g, 0, none⟩) hg1).trans c0
      have d1 := (hb2.cell (p := ⟨g, 1, none⟩) hg1).trans c1
      have hkg : Go.Canon.KeepU (fun b9 => b9 = g) w1.drew w2 := fun b9 h9 => by subst h9; exact hb2.block b9 hg1
      have Hhown := Lib.hid hown; clear hown; have Hhk2 := Lib.hid hk2; clear hk2; have Hhb2 := Lib.hid hb2; clear hb2; have Hhkg := Lib.hid hkg; clear hkg
      go_wp2_with fail
      refine Go.Canon.tr_end Hhkg.out (Go.Canon.tr_one ?_)
      simp only [List.getD_cons_zero, List.getD_cons_succ]
      go_wp2_with fail
      refine Go.Canon.tr_end Hhkg.out (Go.Canon.tr_seg ?_)
      simp only [List.map_cons, List.map_nil, List.getD_cons_zero, List.getD_cons_succ]
      go_wp2_with fail
      refine Go.Canon.tr_to (Go.Canon.tr_one ?_)
      simp only [List.getD_cons_zero, List.getD_cons_succ]
      go_wp2_with fail
      refine Go.Canon.tr_end ?_ ?_
      · intro b9 h9
        subst h9
        exact ((((Below.refl w.heap.size w2).setCell (p := ⟨w.heap.size, 0, none⟩) (Nat.le_refl _) (.int .i64 N)).setCell (p := ⟨w.heap.size, 1, none⟩) (Nat.le_refl _) (.slice A2 T.length cap2)).block b9 hgl).trans (Hhkg.out b9 rfl)
      refine Go.Canon.tr_fin (by rfl) (List.forall_mem_cons.2 ⟨.inl ⟨_, rfl, rfl, by rw [World.cell?_drew, c0]; rfl⟩, List.forall_mem_cons.2 ⟨.inl ⟨_, rfl, rfl, by rw [World.cell?_drew, c1]; rfl⟩, fun _ h => by cases h⟩⟩) ?_
      have hk3 := (Hhk2.out.set 0 (.int .i64 N)).set 1 (.slice A2 T.length cap2)
      have hb3 := ((Hhb1.out.drew.trans (Hhb2.out.mono (by omega))).setCell (p := ⟨w.heap.size, 0, none⟩) (Nat.le_refl _) (.int .i64 N)).setCell (p := ⟨w.heap.size, 1, none⟩) (Nat.le_refl _) (.slice A2 T.length cap2)
      have ho3 := (Hhown.out.kept (grow_cell w2 w.heap.size 0 (.int .i64 N)) (own_bk Hhown.out Hhk2.out (by decide))).kept (grow_cell _ w.heap.size 1 (.slice A2 T.length cap2)) (own_bk Hhown.out Hhk2.out (by decide))
      have Hhk3 := Lib.hid hk3; clear hk3; have Hhb3 := Lib.hid hb3; clear hb3; have Hho3 := Lib.hid ho3; clear ho3
      go_wp2_with fail
      exact ret_cell rfl rfl Hhk3.out Tryz.underlying24 rfl (by kernel_rfl) rfl ⟨⟨_, rfl, own_low (by omega) Hho3.out⟩, Hhb3.out⟩
end Go.Proofs.YtpbdcppaiafbgaaGreat
