/- Walks: the document's Inner, Link, Near. -/
import Derived.Test.YtckkpmjkajkkmaaVB
namespace Go.Proofs.Ytckkpmjkajkkmaa
open Go Go.RowKit Go.Words Go.Mesh

set_option maxRecDepth 20000 in
set_option maxHeartbeats 1000000 in
theorem refNear_calls {w : World} {B : Nat} {sv : Value} {N : Int} {T : List T3} (hT : Sl 3 RTri w B sv T) (hB0 : B ≤ w.heap.size) (hs : Surf N T) (x y : Int) :
    Calls Try.prog 54 #[.agg #[.int .i64 N, sv], .int .i64 x, .int .i64 y] w fun e w' => e = .returned (.bool (near T x y)) ∧ Below w.heap.size w w' := by
  obtain ⟨A, cap, rfl, hcap⟩ := hT.form
  have hb1 := (Below.refl w.heap.size w).alloc (Nat.le_refl _) (.cells #[.int .i64 N, .slice A T.length cap] 24)
  have hbox := Bk.new w 24 [.int .i64 N, .slice A T.length cap]
  have hTA := hT.below keeps_tri (hb1.mono hB0)
  have hbl := hbox.lt
  have c0 := hbox.cell 0
  have c1 := hbox.cell 1
  simp only [List.getElem?_cons_zero, List.getElem?_cons_succ] at c0 c1
  have hnear : near T x y = (((dirc T x y).map (· / 3)).isSome || ((dirc T y x).map (· / 3)).isSome) := by
    unfold near
    rw [hs.dirc_facing, hs.dirc_facing]
    simp
  rw [hnear]
  have hfew := hs.tmax
  generalize hw0 : w.alloc (.cells #[.int .i64 N, .slice A T.length cap] 24) = w0 at *
  have hz0 := hb1.size
  have hf := with_calls (N := N) hTA (by omega) hfew x y
  have hf2 := fun wz (hz : Sl 3 RTri wz B (.slice A T.length cap) T) (hz2 : B ≤ wz.heap.size) => with_calls (N := N) hz hz2 hfew y x
  generalize (dirc T x y).map (· / 3) = o1 at *
  generalize (dirc T y x).map (· / 3) = o2 at *
  cases o1 with
  | some c =>
    have hc : 0 ≤ oi (some c) := by simp [oi]
    rw [show ((some c).isSome || o2.isSome) = true from rfl]
    generalize oi (some c) = p at *
    have HhT := Lib.hid hT; have HhTA := Lib.hid hTA; have Hhbox := Lib.hid hbox; have Hhf := Lib.hid hf; have Hhf2 := Lib.hid hf2; have Hhs := Lib.hid hs; have Hhnear := Lib.hid hnear; clear hT hTA hbox hf hf2 hs hnear
    go_enter Try.func54, Try.ntmps54
    go_wp2_with fail
    clear hw0
    refine Hhf.out.mono ?_
    rintro e w1 ⟨rfl, hb2⟩
    go_wp2_with fail
    go_ret
    exact ⟨rfl, below_call hb1 hb2 hb1.size⟩
  | none =>
    have hc : oi none < 0 := by simp [oi]
    rw [show ((none : Option Nat).isSome || o2.isSome) = o2.isSome from rfl]
    generalize oi none = p at *
    have ho2 := oi_nonneg (o := o2)
    generalize oi o2 = q at *
    have HhT := Lib.hid hT; have HhTA := Lib.hid hTA; have Hhbox := Lib.hid hbox; have Hhf := Lib.hid hf; have Hhf2 := Lib.hid hf2; have Hhs := Lib.hid hs; have Hhnear := Lib.hid hnear; have Hho2 := Lib.hid ho2; clear hT hTA hbox hf hf2 hs hnear ho2
    go_enter Try.func54, Try.ntmps54
    go_wp2_with fail
    clear hw0
    refine Hhf.out.mono ?_
    rintro e w1 ⟨rfl, hb2⟩
    have hb3 := below_call hb1 hb2 hb1.size
    have hz1 := hb2.size
    have d0 : w1.cell? ⟨w.heap.size, 0, none⟩ = some (.int .i64 N) := (hb2.cell (p := ⟨w.heap.size, 0, none⟩) hbl).trans c0
    have d1 : w1.cell? ⟨w.heap.size, 1, none⟩ = some (.slice A T.length cap) := (hb2.cell (p := ⟨w.heap.size, 1, none⟩) hbl).trans c1
    have hf2 := Hhf2.out w1 (HhTA.out.below keeps_tri (hb2.mono (by omega))) (by omega)
    have Hhf2 := Lib.hid hf2; clear hf2
    go_wp2_with fail
    refine Hhf2.out.mono ?_
    rintro e w2 ⟨rfl, hb4⟩
    go_wp2_with fail
    go_ret
    exact ⟨ret_bool Hho2.out, below_call hb3 hb4 hb3.size⟩

/-- A slice of what the call owns, that is not empty. -/
theorem own_addr {w : World} {base : Nat} {e : TypeId} {size n cap : Nat} {A : Option Addr} {xs : List Value} (h : w.ownsRow base e size (.slice A n cap) n xs) (hn : 0 < n) : ∃ g, A = some ⟨g, 0, none⟩ := by
  obtain ⟨m, rfl⟩ : ∃ m, n = m + 1 := ⟨n - 1, by omega⟩
  obtain ⟨g', c', h8⟩ := ownsRow_succ h
  injection h8 with h8
  exact ⟨_, h8⟩
theorem inner_head {N : Int} {T : List T3} (hs : Surf N T) {v : Int} (hl : 0 < (ringAt T N v).length) : ((dirc T (Mesh.vt T (nx (ringAt T N v)[0])) v).map (· / 3)).isSome = innerAt T N v := by
  rcases hs.ring_or v with ⟨h1, _, _⟩ | ⟨_, hv, hr⟩
  · rw [h1] at hl; simp at hl
  have hm := (hr.mem _).1 (List.getElem_mem hl)
  have h2 := hs.dirc_bef (ringAt T N v)[0]
  rw [hm.2] at h2
  rw [h2]
  have h3 := hr.head hl
  cases hb : bef T (ringAt T N v)[0] with
  | none => rw [h3.1 hb]; rfl
  | some d =>
    cases hi : innerAt T N v with
    | true => rfl
    | false => rw [h3.2 hi] at hb; cases hb
set_option maxRecDepth 20000 in
set_option maxHeartbeats 1000000 in
theorem refInner_calls {w : World} {B : Nat} {sv : Value} {N : Int} {T : List T3} (hT : Sl 3 RTri w B sv T) (hB0 : B ≤ w.heap.size) (hs : Surf N T) (v : Int) :
    Calls Try.prog 53 #[.agg #[.int .i64 N, sv], .int .i64 v] w fun e w' => e = .returned (.bool (innerAt T N v)) ∧ Below w.heap.size w w' := by
  obtain ⟨A, cap, rfl, hcap⟩ := hT.form
  have hb1 := (Below.refl w.heap.size w).alloc (Nat.le_refl _) (.cells #[.int .i64 N, .slice A T.length cap] 24)
  have hbox := Bk.new w 24 [.int .i64 N, .slice A T.length cap]
  have hTA := hT.below keeps_tri (hb1.mono hB0)
  have hbl := hbox.lt
  have c0 := hbox.cell 0
  have c1 := hbox.cell 1
  simp only [List.getElem?_cons_zero, List.getElem?_cons_succ] at c0 c1
  have hfew := hs.tmax
  generalize hw0 : w.alloc (.cells #[.int .i64 N, .slice A T.length cap] 24) = w0 at *
  have hz0 := hb1.size
  have hra := refAround_calls hTA (by omega) hs v
  have HhT := Lib.hid hT; have HhTA := Lib.hid hTA; have Hhbox := Lib.hid hbox; have Hhs := Lib.hid hs; have Hhra := Lib.hid hra; clear hT hTA hbox hs hra
  go_enter Try.func53, Try.ntmps53
  go_wp2_with fail
  clear hw0
  refine Hhra.out.mono ?_
  rintro e w1 ⟨⟨r, rfl, hown⟩, hb2⟩
  have hb3 := below_call hb1 hb2 hb1.size
  have hz1 := hb2.size
  have d0 : w1.cell? ⟨w.heap.size, 0, none⟩ = some (.int .i64 N) := (hb2.cell (p := ⟨w.heap.size, 0, none⟩) hbl).trans c0
  have d1 : w1.cell? ⟨w.heap.size, 1, none⟩ = some (.slice A T.length cap) := (hb2.cell (p := ⟨w.heap.size, 1, none⟩) hbl).trans c1
  have hT1 := HhTA.out.below keeps_tri (hb2.mono (by omega))
  obtain ⟨A2, cap2, rfl, hc2⟩ := own_form hown
  by_cases hl0 : 0 < (ringAt T N v).length
  · have hih := inner_head Hhs.out hl0
    have hm := ((Hhs.out.ring_mem v _).1 (List.getElem_mem hl0)).1
    have hl0' : 0 < ((ringAt T N v).length : Int) := by omega
    generalize ringAt T N v = L at *
    generalize hI : innerAt T N v = I9 at *
    obtain ⟨g, rfl⟩ := own_addr hown hl0
    obtain ⟨hcell, hgr, -⟩ := own_nat_at hown rfl hl0
    have hbh := behind_calls (N := N) (hT1.below keeps_tri (Below.refl _ w1).drew) (by show B ≤ w1.heap.size; omega) hfew L[0] 1 hm (.inl rfl)
    rw [vt_one] at hbh
    have hwi := fun wz (hz : Sl 3 RTri wz B (.slice A T.length cap) T) (hz2 : B ≤ wz.heap.size) => with_calls (N := N) hz hz2 hfew (Mesh.vt T (nx L[0])) v
    generalize (dirc T (Mesh.vt T (nx L[0])) v).map (· / 3) = o9 at *
    generalize Mesh.vt T (nx L[0]) = q at *
    generalize hlk : L[0] = lk at *
    have hon := oi_nonneg (o := o9)
    rw [hih] at hon
    generalize oi o9 = r9 at *
    have Hhown := Lib.hid hown; have HhT1 := Lib.hid hT1; have Hhbh := Lib.hid hbh; have Hhwi := Lib.hid hwi; have Hhih := Lib.hid hih; have Hhon := Lib.hid hon; have Hhlk := Lib.hid hlk; have HhI := Lib.hid hI; clear hown hT1 hbh hwi hih hon hlk hI
    go_wp2_with fail
    refine Go.Canon.wp_region_tree [4] (fun b => b = w.heap.size) (.seg [0,1,2,3,4,5,6,7,8,10] (.alt 9 (.alt 11 (.seg [12,13,14] .fin) .no) .no)) mixed (by kernel_rfl) ?_
    refine Go.Canon.tr_seg ?_
    simp only [List.map_cons, List.map_nil, List.getD_cons_zero, List.getD_cons_succ]
    go_wp2_with fail
    refine Go.Canon.tr_to (Go.Canon.tr_one ?_)
    simp only [List.getD_cons_zero, List.getD_cons_succ]
    go_wp2_with fail
    refine Hhbh.out.mono ?_
    rintro e w2 ⟨rfl, hb4⟩
    have hbr : Below w1.heap.size w1 w2 := (Below.refl _ w1).drew.trans hb4
    have hz2 := hbr.size
    go_wp2_with fail
    refine Go.Canon.tr_end (fun b h9 => by subst h9; exact hbr.block _ (by omega)) (Go.Canon.tr_one ?_)
    simp only [List.getD_cons_zero, List.getD_cons_succ]
    go_wp2_with fail
    refine (Hhwi.out w2 (HhT1.out.below keeps_tri (hbr.mono (by omega))) (by omega)).mono ?_
    rintro e w3 ⟨rfl, hb5⟩
    have hbr3 := hbr.trans (hb5.mono hz2)
    go_wp2_with fail
    refine Go.Canon.tr_end (fun b h9 => by subst h9; exact hbr3.block _ (by omega)) (Go.Canon.tr_seg ?_)
    simp only [List.map_cons, List.map_nil, List.getD_cons_zero, List.getD_cons_succ]
    go_wp2_with fail
    refine Go.Canon.tr_to (Go.Canon.tr_fin (by rfl) (List.forall_mem_cons.2 ⟨.inl ⟨_, rfl, rfl, by rw [World.cell?_drew, d0]; rfl⟩, fun _ h => by cases h⟩) ?_)
    go_wp2_with fail
    go_ret
    exact ⟨ret_bool (Hhon.out.trans HhI.out.symm), below_call hb3 hbr3 hb3.size⟩
  · have hL : ringAt T N v = [] := by cases h9 : ringAt T N v with
      | nil => rfl
      | cons a l => rw [h9] at hl0; simp at hl0
    have hin : innerAt T N v = false := by
      rcases Hhs.out.ring_or v with ⟨_, _, h3⟩ | ⟨h3, _, _⟩
      · exact h3
      · exact absurd h3 hl0
    have hll : ((ringAt T N v).length : Int) = 0 := by omega
    rw [hL] at hown hc2 ⊢
    simp only [List.length_nil] at hown hc2 ⊢
    have Hhown := Lib.hid hown; have HhT1 := Lib.hid hT1; have HhL := Lib.hid hL; have Hhin := Lib.hid hin; have Hhll := Lib.hid hll; clear hown hT1 hL hin hll
    go_wp2_with fail
    refine Go.Canon.wp_region_tree [4] (fun b => b = w.heap.size) (.seg [0,1,2,3,4,5,6,7,8,10] (.alt 9 (.alt 11 (.seg [12,13,14] .fin) .no) .no)) mixed (by kernel_rfl) ?_
    refine Go.Canon.tr_seg ?_
    simp only [List.map_cons, List.map_nil, List.getD_cons_zero, List.getD_cons_succ]
    go_wp2_with fail
    refine Go.Canon.tr_to (Go.Canon.tr_one ?_)
    simp only [List.getD_cons_zero, List.getD_cons_succ]
    go_wp2_with fail
    refine Go.Canon.tr_end (fun _ _ => rfl) (Go.Canon.tr_one ?_)
    simp only [List.getD_cons_zero, List.getD_cons_succ]
    go_wp2_with fail
    refine Go.Canon.tr_end (fun _ _ => rfl) (Go.Canon.tr_seg ?_)
    simp only [List.map_cons, List.map_nil, List.getD_cons_zero, List.getD_cons_succ]
    go_wp2_with fail
    refine Go.Canon.tr_to (Go.Canon.tr_fin (by rfl) (List.forall_mem_cons.2 ⟨.inl ⟨_, rfl, rfl, by rw [World.cell?_drew, d0]; rfl⟩, fun _ h => by cases h⟩) ?_)
    go_wp2_with fail
    go_ret
    exact ⟨ret_bool Hhin.out.symm, hb3.drew⟩

set_option maxRecDepth 20000 in
set_option maxHeartbeats 2000000 in
theorem refLink_calls {w : World} {B : Nat} {sv : Value} {N : Int} {T : List T3} (hT : Sl 3 RTri w B sv T) (hB0 : B ≤ w.heap.size) (hs : Surf N T) (v : Int) :
    Calls Try.prog 52 #[.agg #[.int .i64 N, sv], .int .i64 v] w fun e w' => (∃ r, e = .returned r ∧ w'.ownsRow w.heap.size 3 1 r (linkAt T N v).length (ivals (linkAt T N v))) ∧ Below w.heap.size w w' := by
  obtain ⟨A, cap, rfl, hcap⟩ := hT.form
  have hb1 := (Below.refl w.heap.size w).alloc (Nat.le_refl _) (.cells #[.int .i64 N, .slice A T.length cap] 24)
  have hbox := Bk.new w 24 [.int .i64 N, .slice A T.length cap]
  have hTA := hT.below keeps_tri (hb1.mono hB0)
  have hbl := hbox.lt
  have c0 := hbox.cell 0
  have c1 := hbox.cell 1
  simp only [List.getElem?_cons_zero, List.getElem?_cons_succ] at c0 c1
  have hfew := hs.tmax
  generalize hw0 : w.alloc (.cells #[.int .i64 N, .slice A T.length cap] 24) = w0 at *
  have hz0 := hb1.size
  have hra := refAround_calls hTA (by omega) hs v
  have HhT := Lib.hid hT; have HhTA := Lib.hid hTA; have Hhbox := Lib.hid hbox; have Hhs := Lib.hid hs; have Hhra := Lib.hid hra; clear hT hTA hbox hs hra
  go_enter Try.func52, Try.ntmps52
  go_wp2_with fail
  clear hw0
  refine Hhra.out.mono ?_
  rintro e w1 ⟨⟨r, rfl, hown⟩, hb2⟩
  have hb3 := below_call hb1 hb2 hb1.size
  have hz1 := hb2.size
  obtain ⟨A2, cap2, rfl, hc2⟩ := own_form hown
  have hlen := Hhs.out.ring_len v
  have hmem := fun i (hi : i < (ringAt T N v).length) => ((Hhs.out.ring_mem v _).1 (List.getElem_mem hi)).1
  have hlk := Hhs.out.link_inner v
  generalize hL : ringAt T N v = L at *
  generalize hK : linkAt T N v = K9 at *
  generalize hI : innerAt T N v = I9 at *
  have Hhown := Lib.hid hown; have Hhmem := Lib.hid hmem; have Hhlk := Lib.hid hlk; have HhL := Lib.hid hL; have HhK := Lib.hid hK; have HhI := Lib.hid hI; clear hown hmem hlk hL hK hI
  go_wp2_with fail
  go_loopw [6, 7] (fun o i wr => ∃ k : Nat, k ≤ L.length ∧ i = .int .i64 k ∧ wr.ownsRow w1.heap.size 3 1 o k (ivals ((L.take k).map fun c => Mesh.vt T (nx c))) ∧ Below w1.heap.size w1 wr) (fun _ i _ => L.length - (intOf i).toNat)
  case atStart => exact ⟨0, by omega, rfl, World.ownsRow_nil _ _ _ _, Below.refl _ _⟩
  case round =>
    obtain ⟨k, hk, rfl, hownr, hbel⟩ := hrel
    have hzr := hbel.size
    have d0 : wr.cell? ⟨w.heap.size, 0, none⟩ = some (.int .i64 N) := ((hb2.trans (hbel.mono hz1)).cell (p := ⟨w.heap.size, 0, none⟩) hbl).trans c0
    have d1 : wr.cell? ⟨w.heap.size, 1, none⟩ = some (.slice A T.length cap) := ((hb2.trans (hbel.mono hz1)).cell (p := ⟨w.heap.size, 1, none⟩) hbl).trans c1
    have hTr := HhTA.out.below keeps_tri ((hb2.trans (hbel.mono hz1)).mono (by omega))
    have hown1 := own_below Hhown.out hbel (Nat.le_refl _)
    obtain ⟨A3, cap3, rfl, hc3⟩ := own_form hownr
    by_cases hkl : k < L.length
    · obtain ⟨g, rfl⟩ := own_addr hown1 (by omega)
      obtain ⟨hcell, hgr, -⟩ := own_nat_at hown1 rfl hkl
      have hm := Hhmem.out k hkl
      have hbh := behind_calls (N := N) (hTr.below keeps_tri (Below.refl _ wr).drew) (by show B ≤ wr.heap.size; omega) hfew L[k] 1 hm (.inl rfl)
      rw [vt_one] at hbh
      have htk : ivals ((L.take (k + 1)).map fun c => Mesh.vt T (nx c)) = ivals ((L.take k).map fun c => Mesh.vt T (nx c)) ++ [.int .i64 (Mesh.vt T (nx L[k]))] := by
        rw [List.take_succ_eq_append_getElem hkl]; unfold ivals; rw [List.map_append, List.map_append]; rfl
      generalize Mesh.vt T (nx L[k]) = q at *
      generalize hlkk : L[k] = lk at *
      have Hhownr := Lib.hid hownr; have Hhown1 := Lib.hid hown1; have HhTr := Lib.hid hTr; have Hhbh := Lib.hid hbh; have Hhtk := Lib.hid htk; have Hhlkk := Lib.hid hlkk; clear hownr hown1 hTr hbh htk hlkk
      go_wp2_with fail
      refine Go.Canon.wp_region_text mixed (by kernel_rfl) ?_
      go_wp2_with fail
      refine Hhbh.out.mono ?_
      rintro e w2 ⟨rfl, hb4⟩
      have hbr : Below wr.heap.size wr w2 := (Below.refl _ wr).drew.trans hb4
      have hz2 := hbr.size
      have hownz := own_below Hhownr.out hbr (Nat.le_refl _)
      have Hhownz := Lib.hid hownz; clear hownz
      go_wp2_with (at_builtin; refine append_block _ rfl _ _ 28 rfl w1.heap.size infoInt Try.underlying28 rfl (by decide) _ k _ rfl (Hhownz.out.alloc _) w2.heap.size [.int .i64 q] rfl (Bk.new _ _ _) rfl (by simp [Value.oneCell']) (by omega) (by omega) (by simp; omega) ?_; intro v1 w5 hown5 hb5 _ _; have Hhown5 := Lib.hid hown5; clear hown5)
      refine Go.Canon.chk (by rfl) ?_
      go_wp2_with fail
      exact ⟨⟨k + 1, by omega, by simp, by rw [Hhtk.out]; exact Hhown5.out, hbel.trans ((hbr.mono hzr).trans (((Below.refl w1.heap.size w2).alloc (by omega) _).trans hb5))⟩, by simp [intOf]; omega⟩
    · obtain rfl : k = L.length := by omega
      rw [List.take_length] at hownr
      have hb10 := below_call hb3 hbel hb3.size
      have hret : ∀ (wz : World) (r : Value) (l : List Int), wz.ownsRow w1.heap.size 3 1 r l.length (ivals l) → K9 = l → Below w.heap.size w wz → (∃ r', Ending.returned r = Ending.returned r' ∧ wz.ownsRow w.heap.size 3 1 r' (linkAt T N v).length (ivals (linkAt T N v))) ∧ Below w.heap.size w wz := by
        intro wz r l h1 h2 h3
        rw [HhK.out, h2]
        exact ⟨⟨r, rfl, own_base h1 (by omega)⟩, h3⟩
      by_cases hl0 : 0 < L.length
      · have hl0i : 0 < (L.length : Int) := by omega
        obtain ⟨g, rfl⟩ := own_addr hown1 hl0
        obtain ⟨lk, hlk9⟩ : ∃ lk : Nat, L[L.length - 1]'(by omega) = lk := ⟨_, rfl⟩
        have hlast : L.getLast? = some lk := by rw [List.getLast?_eq_getElem?, List.getElem?_eq_getElem (by omega), hlk9]
        have hkk := Hhlk.out
        rw [hlast] at hkk
        have hin := refInner_calls hTr (by omega) Hhs.out v
        rw [HhI.out] at hin
        cases I9 with
        | true =>
          have hkk : K9 = L.map fun c => Mesh.vt T (nx c) := by rw [hkk]; simp
          have Hhownr := Lib.hid hownr; have Hhown1 := Lib.hid hown1; have HhTr := Lib.hid hTr; have Hhkk := Lib.hid hkk; have Hhret := Lib.hid hret; have Hhlast := Lib.hid hlast; have Hhin := Lib.hid hin; have Hhlk9 := Lib.hid hlk9; clear hownr hown1 hTr hkk hret hlast hin hlk9
          go_wp2_with fail
          refine Hhin.out.mono ?_
          rintro e w2 ⟨rfl, hb4⟩
          have hownz := own_below Hhownr.out hb4 (Nat.le_refl _)
          have hfin := Hhret.out w2 _ _ (by rw [List.length_map]; exact hownz) Hhkk.out (below_call hb10 hb4 hb10.size)
          have Hhownz := Lib.hid hownz; have Hhfin := Lib.hid hfin; clear hownz hfin
          go_wp2_with fail
          go_ret
          exact Hhfin.out
        | false =>
          have hkk : K9 = (L.map fun c => Mesh.vt T (nx c)) ++ [Mesh.vt T (pv lk)] := by rw [hkk]; simp
          have hm : lk < 3 * T.length := by rw [← hlk9]; exact Hhmem.out (L.length - 1) (by omega)
          have hbhz := fun wz (hz : Sl 3 RTri wz B (.slice A T.length cap) T) (hz2 : B ≤ wz.heap.size) => behind_calls (N := N) hz hz2 hfew lk 2 hm (.inr rfl)
          rw [vt_two] at hbhz
          have hcz := fun (wz : World) (hz : wz.ownsRow w0.heap.size 3 1 (.slice (some ⟨g, 0, none⟩) L.length cap2) L.length (nvals L)) => own_nat_at hz rfl (i := L.length - 1) (by omega)
          rw [hlk9] at hcz
          generalize Mesh.vt T (pv lk) = q at *
          have Hhownr := Lib.hid hownr; have Hhown1 := Lib.hid hown1; have HhTr := Lib.hid hTr; have Hhkk := Lib.hid hkk; have Hhret := Lib.hid hret; have Hhlast := Lib.hid hlast; have Hhin := Lib.hid hin; have Hhbhz := Lib.hid hbhz; have Hhcz := Lib.hid hcz; have Hhm := Lib.hid hm; have Hhlk9 := Lib.hid hlk9; clear hownr hown1 hTr hkk hret hlast hin hbhz hcz hm hlk9
          go_wp2_with fail
          refine Hhin.out.mono ?_
          rintro e w2 ⟨rfl, hb4⟩
          have hz2 := hb4.size
          obtain ⟨hcell, hgr, -⟩ := Hhcz.out w2 (own_below Hhown1.out hb4 (Nat.le_refl _))
          have hTz := HhTr.out.below keeps_tri (hb4.mono (by omega))
          have hbh := Hhbhz.out w2.drew (hTz.below keeps_tri (Below.refl _ w2).drew) (by show B ≤ w2.heap.size; omega)
          have d2 : w2.cell? ⟨w.heap.size, 0, none⟩ = some (.int .i64 N) := (hb4.cell (p := ⟨w.heap.size, 0, none⟩) (by show w.heap.size < _; omega)).trans d0
          have d3 : w2.cell? ⟨w.heap.size, 1, none⟩ = some (.slice A T.length cap) := (hb4.cell (p := ⟨w.heap.size, 1, none⟩) (by show w.heap.size < _; omega)).trans d1
          obtain ⟨m9, hm9, hm8⟩ : ∃ m9 : Nat, (L.length : Int) - 1 = (m9 : Int) ∧ L.length - 1 = m9 := ⟨L.length - 1, by omega, rfl⟩
          rw [hm8] at hcell
          have hm7 : (m9 : Int) < (L.length : Int) := by omega
          have hb11 := below_call hb10 hb4 hb10.size
          have HhTz := Lib.hid hTz; have Hhbh := Lib.hid hbh; have Hhm8 := Lib.hid hm8; clear hTz hbh hm8
          go_wp2_with fail
          refine Go.Canon.wp_region_text mixed (by kernel_rfl) ?_
          go_wp2_with fail
          refine Hhbh.out.mono ?_
          rintro e w3 ⟨rfl, hb5⟩
          have hbr : Below w2.heap.size w2 w3 := (Below.refl _ w2).drew.trans hb5
          have hz3 := hbr.size
          have hownz := own_below Hhownr.out (hb4.trans (hbr.mono hz2)) (Nat.le_refl _)
          have hb12 := below_call hb11 hbr hb11.size
          have Hhownz := Lib.hid hownz; clear hownz
          go_wp2_with (at_builtin; refine append_block _ rfl _ _ 28 rfl w1.heap.size infoInt Try.underlying28 rfl (by decide) _ L.length _ rfl (Hhownz.out.alloc _) w3.heap.size [.int .i64 q] rfl (Bk.new _ _ _) rfl (by simp [Value.oneCell']) (by omega) (by omega) (by simp; omega) ?_; intro v1 w5 hown5 hb6 _ _; have Hhown5 := Lib.hid hown5; clear hown5)
          refine Go.Canon.chk (by rfl) ?_
          have hfin := Hhret.out w5 v1 _ (by rw [List.length_append, List.length_map]; have := Hhown5.out; simpa [ivals] using this) Hhkk.out (hb12.trans ((((Below.refl w1.heap.size w3).alloc (by omega) _).trans hb6).mono (by omega)))
          have Hhfin := Lib.hid hfin; clear hfin
          go_wp2_with fail
          go_ret
          exact Hhfin.out
      · have hl0i : (L.length : Int) = 0 := by omega
        have hL0 : L = [] := List.eq_nil_of_length_eq_zero (by omega)
        have hkk : K9 = [] := by rw [Hhlk.out, hL0]; rfl
        have hfin := hret wr (.slice A3 L.length cap3) [] (by rw [hL0] at hownr ⊢; exact hownr) hkk hb10
        have Hhownr := Lib.hid hownr; have Hhown1 := Lib.hid hown1; have HhTr := Lib.hid hTr; have Hhkk := Lib.hid hkk; have Hhret := Lib.hid hret; have HhL0 := Lib.hid hL0; have Hhl0i := Lib.hid hl0i; have Hhfin := Lib.hid hfin; clear hownr hown1 hTr hkk hret hL0 hl0i hfin
        go_wp2_with fail
        go_ret
        exact Hhfin.out
end Go.Proofs.Ytckkpmjkajkkmaa
