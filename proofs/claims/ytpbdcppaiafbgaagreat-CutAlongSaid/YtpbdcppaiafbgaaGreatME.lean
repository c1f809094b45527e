/- Walks: a table's Facing, Corner, Opp. Walks: ring's before, after. Walks: ring's there, first. -/
import Derived.Test.YtpbdcppaiafbgaaGreatTB
namespace Go.Mesh
def oi : Option Nat → Int
  | some c => c
  | none => -1
def tOpp (T : List T3) (c : Int) : Int := oi (facing T ((tEdge T c).2, (tEdge T c).1))
theorem tOpp_at {T : List T3} {c : Nat} (h : c < 3 * T.length) : tOpp T c = oi (opp T c) := by
  unfold tOpp
  rw [tEdge_at h]
  rfl
def tCorn (T : List T3) (N : Int) (v : Int) : Int := if 0 ≤ v ∧ v < N then oi (cornerOf T v) else -1
end Go.Mesh
namespace Go.Proofs.YtpbdcppaiafbgaaGreat
open Go Go.RowKit Go.Words Go.Mesh

set_option maxRecDepth 20000 in
theorem facing_calls {w : World} {B : Nat} {pv : Value} {N : Int} {T : List T3} (h : Tab w B pv N T) (x y : Int) (hx : I64 x) (hy : I64 y) :
    Calls Tryz.prog 32 #[pv, .agg #[.int .i64 x, .int .i64 y]] w fun e w' => e = .returned (.int .i64 (oi (facing T (x, y)))) ∧ RowKit.Below w.heap.size w w' := by
  obtain ⟨g, vt, gm, vf, m, F, rfl, htab, hm, hgm, hlook, hF, hFirst⟩ := h
  have hg := htab.blk.lt
  have hbl := hm.lt
  have t2 : w.cell? ⟨g, 2, none⟩ = some (.map (some gm)) := htab.blk.cell 2
  have hb1 := (RowKit.Below.refl w.heap.size w).alloc (Nat.le_refl _) (.cells #[.int .i64 x, .int .i64 y] 39)
  have mA := hm.alloc (.cells #[.int .i64 x, .int .i64 y] 39)
  have eA := Bk.new w 39 [.int .i64 x, .int .i64 y]
  have tA := htab.blk.alloc (.cells #[.int .i64 x, .int .i64 y] 39)
  have hl := hlook (x, y) ⟨hx, hy⟩
  have Hhtab := Lib.hid htab; clear htab; have Hhm := Lib.hid hm; clear hm; have Hhlook := Lib.hid hlook; clear hlook; have HhF := Lib.hid hF; clear hF; have HhFirst := Lib.hid hFirst; clear hFirst; have HmA := Lib.hid mA; clear mA; have HeA := Lib.hid eA; clear eA; have HtA := Lib.hid tA; clear tA; have Hhl := Lib.hid hl; clear hl
  go_enter Tryz.func32, Tryz.ntmps32
  go_wp2_with fail
  obtain ⟨wo, hwo⟩ : ∃ wo : World, wo = w.alloc (.cells #[.int .i64 x, .int .i64 y] 39) := ⟨_, rfl⟩
  rw [← hwo] at hb1 HmA HeA HtA ⊢
  clear hwo
  have t2 : wo.cell? ⟨g, 2, none⟩ = some (.map (some gm)) := HtA.out.cell 2
  have e0 : wo.cell? ⟨w.heap.size, 0, none⟩ = some (.int .i64 x) := HeA.out.cell 0
  have e1 : wo.cell? ⟨w.heap.size, 1, none⟩ = some (.int .i64 y) := HeA.out.cell 1
  refine Go.Canon.wp_region_tree [4] (fun _ => True) (.seg [0,4] (.alt 1 (.seg [2,3] (.alt 5 (.seg [6,7,8,9,10] .fin) .no)) .no)) mixed (by kernel_rfl) ?_
  refine Go.Canon.tr_seg ?_
  simp only [List.map_cons, List.map_nil, List.getD_cons_zero, List.getD_cons_succ]
  go_wp2_with fail
  refine Go.Canon.tr_to (Go.Canon.tr_one ?_)
  simp only [List.getD_cons_zero, List.getD_cons_succ]
  go_wp2_with fail
  refine Go.Canon.tr_end (fun _ _ => rfl) (Go.Canon.tr_seg ?_)
  simp only [List.map_cons, List.map_nil, List.getD_cons_zero, List.getD_cons_succ]
  go_wp2_with fail
  refine Go.Canon.tr_to (Go.Canon.tr_one ?_)
  simp only [List.getD_cons_zero, List.getD_cons_succ]
  refine wpList_look_ok _ rfl _ _ 118 rfl 39 3 keyE Tryz.underlying118 zero_int gm m rfl HmA.out.drew (x, y) rfl ⟨hx, hy⟩ ?_
  rw [Hhl.out]
  go_wp2_with fail
  refine Go.Canon.tr_end (fun _ _ => rfl) (Go.Canon.tr_seg ?_)
  simp only [List.map_cons, List.map_nil, List.getD_cons_zero, List.getD_cons_succ]
  cases hf : facing T (x, y)
  · go_wp2_with fail
    refine Go.Canon.tr_to (Go.Canon.tr_fin (by rfl) (List.forall_mem_cons.2 ⟨.inl ⟨_, rfl, trivial, by rw [World.cell?_drew, e0]; rfl⟩, fun _ h => by cases h⟩) ?_)
    go_wp2
    go_ret
    exact ⟨by rw [hf]; rfl, hb1.drew⟩
  · go_wp2_with fail
    refine Go.Canon.tr_to (Go.Canon.tr_fin (by rfl) (List.forall_mem_cons.2 ⟨.inl ⟨_, rfl, trivial, by rw [World.cell?_drew, e0]; rfl⟩, fun _ h => by cases h⟩) ?_)
    go_wp2
    go_ret
    exact ⟨by rw [hf]; rfl, hb1.drew⟩

set_option maxRecDepth 20000 in
theorem corner_calls {w : World} {B : Nat} {pv : Value} {N : Int} {T : List T3} (h : Tab w B pv N T) (hs : Surf N T) (v : Int) :
    Calls Tryz.prog 50 #[pv, .int .i64 v] w fun e w' => e = .returned (.int .i64 (tCorn T N v)) ∧ w' = w := by
  obtain ⟨g, vt, gm, vf, m, F, rfl, htab, hm, hgm, hlook, hF, hFirst⟩ := h
  have hN := hs.n0
  have hNm := hs.nmax
  have hg := htab.blk.lt
  obtain ⟨A, cap, rfl, hcap⟩ := hF.form
  have hFl : F.length = N.toNat := hFirst.1
  have t3 : w.cell? ⟨g, 3, none⟩ = some (.slice A (F.map fun n : Nat => (n : Int)).length cap) := htab.blk.cell 3
  rw [List.length_map] at t3 hcap
  have f2 := hFirst.2
  by_cases hv : 0 ≤ v ∧ v < N
  · obtain ⟨u, rfl⟩ : ∃ u : Nat, v = u := ⟨v.toNat, by omega⟩
    have hu : u < F.length := by omega
    obtain ⟨b, o, rfl, hb, c1⟩ := hF.int_at (k := u) (by simpa using hu)
    rw [List.getElem_map, f2 u hu, cornFrom_zero] at c1
    obtain ⟨c, hc, hcv⟩ := hs.used u (by omega) hv.2
    obtain ⟨d, hd⟩ := leastFrom_isSome (p := fun d => Mesh.vt T d == (u : Int)) (n := 3 * T.length) (k := 0) (c := c) (by omega) (by omega) (by simp [hcv])
    have hd : cornerOf T u = some d := hd
    have hr : tCorn T N u = (d : Int) := by unfold tCorn; rw [if_pos hv, hd]; rfl
    rw [hr]
    rw [hd] at c1
    simp only [Option.getD_some] at c1
    have Hhtab := Lib.hid htab; clear htab; have Hhm := Lib.hid hm; clear hm; have Hhlook := Lib.hid hlook; clear hlook; have HhF := Lib.hid hF; clear hF; have HhFirst := Lib.hid hFirst; clear hFirst; have Hf2 := Lib.hid f2; clear f2; have Hhs := Lib.hid hs; clear hs; have Hhd := Lib.hid hd; clear hd
    go_enter Tryz.func50, Tryz.ntmps50
    go_wp2
    go_ret
    exact ⟨rfl, rfl⟩
  · have hr : tCorn T N v = -1 := by unfold tCorn; rw [if_neg hv]
    rw [hr]
    have Hhtab := Lib.hid htab; clear htab; have Hhm := Lib.hid hm; clear hm; have Hhlook := Lib.hid hlook; clear hlook; have HhF := Lib.hid hF; clear hF; have HhFirst := Lib.hid hFirst; clear hFirst; have Hf2 := Lib.hid f2; clear f2; have Hhs := Lib.hid hs; clear hs
    by_cases h0 : 0 ≤ v
    · have hge : (F.length : Int) ≤ v := by omega
      go_enter Tryz.func50, Tryz.ntmps50
      go_wp2
      go_ret
      exact ⟨rfl, rfl⟩
    · have h1 : v < 0 := by omega
      clear h0 hv
      go_enter Tryz.func50, Tryz.ntmps50
      go_wp2
      go_ret
      exact ⟨rfl, rfl⟩

theorem tEdge_I64 {T : List T3} {N : Int} (hs : Surf N T) (c : Int) : I64 (tEdge T c).1 ∧ I64 (tEdge T c).2 := by
  have hm := hs.nmax
  have h1 : ∀ d : Int, I64 (tVert T d) := by
    intro d
    unfold tVert
    split
    · rename_i h
      have := hs.rng d.toNat (by have := h.1; have := h.2; omega)
      unfold I64
      omega
    · unfold I64; omega
  exact ⟨h1 _, h1 _⟩
set_option maxRecDepth 20000 in
theorem opp_calls {w : World} {B : Nat} {pv : Value} {N : Int} {T : List T3} (h : Tab w B pv N T) (hs : Surf N T) (c : Int) :
    Calls Tryz.prog 27 #[pv, .int .i64 c] w fun e w' => e = .returned (.int .i64 (tOpp T c)) ∧ RowKit.Below w.heap.size w w' := by
  have h0 := h
  have hle := h.le
  obtain ⟨g, vt, gm, vf, m, F, rfl, htab, _⟩ := h
  have he := edge_calls htab c
  obtain ⟨hx, hy⟩ := tEdge_I64 hs c
  have hopp : tOpp T c = oi (facing T ((tEdge T c).2, (tEdge T c).1)) := rfl
  rw [hopp]
  clear hopp
  generalize tEdge T c = ed at *
  obtain ⟨x, y⟩ := ed
  simp only [] at hx hy ⊢
  have hf := fun wz (hz : Tab wz B (.pointer (some ⟨g, 0, none⟩)) N T) => facing_calls hz y x hy hx
  change Calls _ _ _ _ (fun e w' => e = .returned (.agg #[.int .i64 x, .int .i64 y]) ∧ _) at he
  generalize oi (facing T (y, x)) = r at *
  have Hh0 := Lib.hid h0; clear h0; have Hhs := Lib.hid hs; clear hs; have Hhtab := Lib.hid htab; clear htab; have Hhe := Lib.hid he; clear he; have Hhf := Lib.hid hf; clear hf; have Hhx := Lib.hid hx; clear hx; have Hhy := Lib.hid hy; clear hy
  go_enter Tryz.func27, Tryz.ntmps27
  go_wp2_with fail
  refine Hhe.out.mono ?_
  rintro e w1 ⟨rfl, hb1⟩
  have hb2 := hb1.alloc hb1.size (.cells #[.int .i64 x, .int .i64 y] 39)
  go_wp2_with fail
  refine (Hhf.out _ (Hh0.out.below hb2 hle)).mono ?_
  rintro e w2 ⟨rfl, hb3⟩
  have hb4 := below_call hb2 hb3 hb2.size
  go_wp2
  go_ret
  exact ⟨rfl, hb4⟩
end Go.Proofs.YtpbdcppaiafbgaaGreat

namespace Go.Mesh
theorem tNext_at {T : List T3} {c : Nat} (h : c < 3 * T.length) : tNext T (c : Int) = (nx c : Int) := by
  unfold tNext
  rw [if_pos ⟨by omega, by omega⟩]; simp
theorem tPrev_at {T : List T3} {c : Nat} (h : c < 3 * T.length) : tPrev T (c : Int) = (pv c : Int) := by
  unfold tPrev
  rw [if_pos ⟨by omega, by omega⟩]; simp
end Go.Mesh
namespace Go.Proofs.YtpbdcppaiafbgaaGreat
open Go Go.RowKit Go.Words Go.Mesh

set_option maxRecDepth 20000 in
theorem after_calls {w : World} {B : Nat} {pv : Value} {N : Int} {T : List T3} (h : Tab w B pv N T) (hs : Surf N T) (c : Nat) (hc : c < 3 * T.length) :
    Calls Tryz.prog 83 #[pv, .int .i64 (c : Int)] w fun e w' => e = .returned (.int .i64 (oi (aft T c))) ∧ RowKit.Below w.heap.size w w' := by
  have h0 := h
  have hle := h.le
  have ho := opp_calls h hs (nx c : Int)
  rw [tOpp_at (nx_lt hc)] at ho
  have hn : ∀ wz (d : Int), Tab wz B pv N T → Calls Tryz.prog 78 #[pv, .int .i64 d] wz fun e w' => e = .returned (.int .i64 (tNext T d)) ∧ w' = wz := by
    rintro wz d ⟨g, vt, gm, vf, m, F, rfl, htab, _⟩
    exact next_calls htab d
  have hn1 := hn w c h
  rw [tNext_at hc] at hn1
  have haft : aft T c = (opp T (nx c)).map nx := rfl
  rw [haft]
  cases hop : opp T (nx c) with
  | none =>
    rw [hop] at ho
    change Calls Tryz.prog 83 _ _ fun e w' => e = .returned (.int .i64 (-1)) ∧ _
    change Calls _ _ _ _ fun e w' => e = .returned (.int .i64 (-1)) ∧ _ at ho
    have Hh0 := Lib.hid h0; clear h0; have Hhs := Lib.hid hs; clear hs; have Hho := Lib.hid ho; clear ho; have Hhn := Lib.hid hn; clear hn; have Hhn1 := Lib.hid hn1; clear hn1; have Hhop := Lib.hid hop; clear hop; have Hhaft := Lib.hid haft; clear haft; have Hh := Lib.hid h; clear h
    go_enter Tryz.func83, Tryz.ntmps83
    go_wp2_with fail
    refine Hhn1.out.mono ?_
    rintro e w1 ⟨rfl, rfl⟩
    go_wp2_with fail
    refine Hho.out.mono ?_
    rintro e w1 ⟨rfl, hb⟩
    go_wp2
    go_ret
    exact ⟨rfl, hb⟩
  | some d =>
    rw [hop] at ho
    have hd := (hs.opp_iff.1 hop).1
    change Calls Tryz.prog 83 _ _ fun e w' => e = .returned (.int .i64 (nx d : Int)) ∧ _
    change Calls _ _ _ _ fun e w' => e = .returned (.int .i64 (d : Int)) ∧ _ at ho
    have Hh0 := Lib.hid h0; clear h0; have Hhs := Lib.hid hs; clear hs; have Hho := Lib.hid ho; clear ho; have Hhn1 := Lib.hid hn1; clear hn1; have Hhop := Lib.hid hop; clear hop; have Hhaft := Lib.hid haft; clear haft; have Hh := Lib.hid h; clear h
    have Hhn := Lib.hid hn
    clear hn
    go_enter Tryz.func83, Tryz.ntmps83
    go_wp2_with fail
    refine Hhn1.out.mono ?_
    rintro e w1 ⟨rfl, rfl⟩
    go_wp2_with fail
    refine Hho.out.mono ?_
    rintro e w1 ⟨rfl, hb⟩
    have hn2 := Hhn.out w1 d (Hh0.out.below hb hle)
    rw [tNext_at hd] at hn2
    have Hhn2 := Lib.hid hn2; clear hn2
    go_wp2_with fail
    refine Hhn2.out.mono ?_
    rintro e w2 ⟨rfl, rfl⟩
    go_wp2
    go_ret
    exact ⟨rfl, hb⟩
set_option maxRecDepth 20000 in
theorem before_calls {w : World} {B : Nat} {tv : Value} {N : Int} {T : List T3} (h : Tab w B tv N T) (hs : Surf N T) (c : Nat) (hc : c < 3 * T.length) :
    Calls Tryz.prog 123 #[tv, .int .i64 (c : Int)] w fun e w' => e = .returned (.int .i64 (oi (bef T c))) ∧ RowKit.Below w.heap.size w w' := by
  have h0 := h
  have hle := h.le
  have ho := opp_calls h hs (pv c : Int)
  rw [tOpp_at (pv_lt hc)] at ho
  have hn : ∀ wz (d : Int), Tab wz B tv N T → Calls Tryz.prog 79 #[tv, .int .i64 d] wz fun e w' => e = .returned (.int .i64 (tPrev T d)) ∧ w' = wz := by
    rintro wz d ⟨g, vt, gm, vf, m, F, rfl, htab, _⟩
    exact prev_calls htab d
  have hn1 := hn w c h
  rw [tPrev_at hc] at hn1
  have hbef : bef T c = (opp T (pv c)).map pv := rfl
  rw [hbef]
  cases hop : opp T (pv c) with
  | none =>
    rw [hop] at ho
    change Calls Tryz.prog 123 _ _ fun e w' => e = .returned (.int .i64 (-1)) ∧ _
    change Calls _ _ _ _ fun e w' => e = .returned (.int .i64 (-1)) ∧ _ at ho
    have Hh0 := Lib.hid h0; clear h0; have Hhs := Lib.hid hs; clear hs; have Hho := Lib.hid ho; clear ho; have Hhn := Lib.hid hn; clear hn; have Hhn1 := Lib.hid hn1; clear hn1; have Hhop := Lib.hid hop; clear hop; have Hhbef := Lib.hid hbef; clear hbef; have Hh := Lib.hid h; clear h
    go_enter Tryz.func123, Tryz.ntmps123
    go_wp2_with fail
    refine Hhn1.out.mono ?_
    rintro e w1 ⟨rfl, rfl⟩
    go_wp2_with fail
    refine Hho.out.mono ?_
    rintro e w1 ⟨rfl, hb⟩
    go_wp2
    go_ret
    exact ⟨rfl, hb⟩
  | some d =>
    rw [hop] at ho
    have hd := (hs.opp_iff.1 hop).1
    change Calls Tryz.prog 123 _ _ fun e w' => e = .returned (.int .i64 (pv d : Int)) ∧ _
    change Calls _ _ _ _ fun e w' => e = .returned (.int .i64 (d : Int)) ∧ _ at ho
    have Hh0 := Lib.hid h0; clear h0; have Hhs := Lib.hid hs; clear hs; have Hho := Lib.hid ho; clear ho; have Hhn1 := Lib.hid hn1; clear hn1; have Hhop := Lib.hid hop; clear hop; have Hhbef := Lib.hid hbef; clear hbef; have Hh := Lib.hid h; clear h
    have Hhn := Lib.hid hn
    clear hn
    go_enter Tryz.func123, Tryz.ntmps123
    go_wp2_with fail
    refine Hhn1.out.mono ?_
    rintro e w1 ⟨rfl, rfl⟩
    go_wp2_with fail
    refine Hho.out.mono ?_
    rintro e w1 ⟨rfl, hb⟩
    have hn2 := Hhn.out w1 d (Hh0.out.below hb hle)
    rw [tPrev_at hd] at hn2
    have Hhn2 := Lib.hid hn2; clear hn2
    go_wp2_with fail
    refine Hhn2.out.mono ?_
    rintro e w2 ⟨rfl, rfl⟩
    go_wp2
    go_ret
    exact ⟨rfl, hb⟩
end Go.Proofs.YtpbdcppaiafbgaaGreat

namespace Go.Proofs.YtpbdcppaiafbgaaGreat
open Go Go.RowKit Go.Words Go.Mesh

theorem there_nil (v : Int) (w : World) : Calls Tryz.prog 80 #[.pointer none, .int .i64 v] w fun e w' => e = .returned (.bool false) ∧ w' = w := by
  go_enter Tryz.func80, Tryz.ntmps80
  go_wp2
  go_ret
  exact ⟨rfl, rfl⟩
set_option maxRecDepth 20000 in
theorem there_calls {w : World} {B : Nat} {tv : Value} {N : Int} {T : List T3} (h : Tab w B tv N T) (hs : Surf N T) (v : Int) :
    Calls Tryz.prog 80 #[tv, .int .i64 v] w fun e w' => e = .returned (.bool (decide (0 ≤ v ∧ v < N))) ∧ w' = w := by
  have hc := corner_calls h hs v
  have hv : Calls Tryz.prog 91 #[tv] w fun e w' => e = .returned (.int .i64 N) ∧ w' = w := by
    obtain ⟨g, vt, gm, vf, m, F, rfl, htab, _⟩ := h
    exact vertices_calls htab
  obtain ⟨g, vt, gm, vf, m, F, rfl, htab, _⟩ := h
  have hpos : 0 ≤ v ∧ v < N → 0 ≤ tCorn T N v := by
    intro h9
    unfold tCorn
    rw [if_pos h9]
    obtain ⟨c, hc, hcv⟩ := hs.used v h9.1 h9.2
    obtain ⟨d, hd⟩ := leastFrom_isSome (p := fun d => Mesh.vt T d == v) (n := 3 * T.length) (k := 0) (c := c) (by omega) (by omega) (by simp [hcv])
    have hd : cornerOf T v = some d := hd
    rw [hd]
    show (0 : Int) ≤ (d : Int)
    omega
  generalize tCorn T N v = r at *
  have Hhc := Lib.hid hc; clear hc; have Hhv := Lib.hid hv; clear hv; have Hhtab := Lib.hid htab; clear htab; have Hhs := Lib.hid hs; clear hs
  by_cases h1 : 0 ≤ v
  · by_cases h2 : v < N
    · have h3 := hpos ⟨h1, h2⟩
      clear hpos
      rw [decide_eq_true ⟨h1, h2⟩]
      go_enter Tryz.func80, Tryz.ntmps80
      go_wp2_with fail
      refine Hhv.out.mono ?_
      rintro e w1 ⟨rfl, rfl⟩
      go_wp2_with fail
      refine Hhc.out.mono ?_
      rintro e w1 ⟨rfl, rfl⟩
      go_wp2
      go_ret
      exact ⟨rfl, rfl⟩
    · clear hpos
      have h3 : N ≤ v := by omega
      rw [decide_eq_false fun h9 => h2 h9.2]
      go_enter Tryz.func80, Tryz.ntmps80
      go_wp2_with fail
      refine Hhv.out.mono ?_
      rintro e w1 ⟨rfl, rfl⟩
      go_wp2
      go_ret
      exact ⟨rfl, rfl⟩
  · clear hpos
    have h3 : v < 0 := by omega
    rw [decide_eq_false fun h9 => h1 h9.1]
    clear h1
    go_enter Tryz.func80, Tryz.ntmps80
    go_wp2
    go_ret
    exact ⟨rfl, rfl⟩
end Go.Proofs.YtpbdcppaiafbgaaGreat
