/- Walks: ref15's Copy. -/
import Derived.Test.YtpbdcppaiafbgaaGreatRX
import Derived.Test.YtpbdcppaiafbgaaGreatApp
namespace Go.Proofs.YtpbdcppaiafbgaaGreat
open Go Go.RowKit Go.Words Go.Mesh
theorem infoTri19 : (Tryz.prog.info? 57).map (fun i => (i.zero, i.size, i.bytes)) = some (some (.agg #[.int .i64 0, .int .i64 0, .int .i64 0]), 3, 24) := by kernel_rfl
theorem flat3_one (T : List T3) : ∀ u ∈ flat3 T, u.oneCell' = true := fun u hu => by
  obtain ⟨j, hj, rfl⟩ := List.getElem_of_mem hu
  have h := flat3_some (X := T) (j := j) (by rw [flat3_len] at hj; omega)
  rw [List.getElem?_eq_getElem hj] at h
  rw [Option.some.inj h]
  rfl
theorem sl_cells3 {w : World} {B cap : Nat} {A : Option Addr} {T : List T3} (h : Sl 3 RTri w B (.slice A T.length cap) T) : (A = none → T.length = 0) ∧ ∀ ad, A = some ad → ∀ j u, (flat3 T)[j]? = some u → w.cell? (ad.add j) = some u := by
  refine ⟨fun e => ?_, fun ad e j u hj => ?_⟩
  · subst e
    rcases Nat.eq_zero_or_pos T.length with h0 | h0
    · exact h0
    · obtain ⟨b, o, h1, _⟩ := tri_cells h (i := 0) h0
      cases h1
  · have hjl : j < (flat3 T).length := (List.getElem?_eq_some_iff.1 hj).1
    rw [flat3_len] at hjl
    obtain ⟨b, o, h1, _, h2⟩ := tri_cells h (i := j / 3) (by omega)
    rw [e] at h1
    injection h1 with h1
    subst h1
    rw [flat3_some (by omega)] at hj
    have hj := Option.some.inj hj
    subst hj
    rw [Addr.add_lit]
    have h3 := h2 (j % 3) (by omega)
    rw [show o + j / 3 * 3 + j % 3 = o + j by omega, show 3 * (j / 3) + j % 3 = j by omega] at h3
    exact h3
set_option maxRecDepth 20000 in
set_option maxHeartbeats 1000000 in
theorem copy15_calls {w : World} {B : Nat} {sv : Value} {N : Int} {T : List T3} (hT : Sl 3 RTri w B sv T) (hB0 : B ≤ w.heap.size) (hfew : T.length ≤ 8192) :
    Calls Tryz.prog 70 #[.agg #[.int .i64 N, sv]] w fun e w' => (∃ r, e = .returned (.agg #[.int .i64 N, r]) ∧ w'.ownsRow w.heap.size 57 3 r T.length (flat3 T)) ∧ Below w.heap.size w w' := by
  obtain ⟨A, cap, rfl, hcap⟩ := hT.form
  obtain ⟨q1, q2⟩ := sl_cells3 hT
  have HhT := Lib.hid hT; have Hq1 := Lib.hid q1; have Hq2 := Lib.hid q2; clear hT q1 q2
  go_enter Tryz.func70, Tryz.ntmps70
  go_wp2_with fail
  obtain ⟨w0, hw0⟩ : ∃ w0, w0 = ((w.alloc (.cells #[.int .i64 N, .slice A T.length cap] 24)).alloc (.cells #[.int .i64 0, .slice none 0 0] 24)) := ⟨_, rfl⟩
  have hB1 : Below w.heap.size w w0 := by
    rw [hw0]; exact ((Below.refl _ w).alloc (Nat.le_refl _) _).alloc (by simp) _
  have hk0 : Bk w0 w.heap.size 24 [.int .i64 N, .slice A T.length cap] := by rw [hw0]; exact (Bk.new w _ _).alloc _
  have hk1 : Bk w0 (w.heap.size + 1) 24 [.int .i64 0, .slice none 0 0] := by rw [hw0]; exact Bk.new' _ _ (by simp)
  have hz0 : w.heap.size + 2 ≤ w0.heap.size := by rw [hw0]; simp
  rw [← hw0]
  clear hw0
  have c0 : w0.cell? ⟨w.heap.size, 0, none⟩ = some (.int .i64 N) := hk0.cell 0
  have c1 : w0.cell? ⟨w.heap.size, 1, none⟩ = some (.slice A T.length cap) := hk0.cell 1
  have Hhk0 := Lib.hid hk0; have Hhk1 := Lib.hid hk1; clear hk0 hk1
  refine Go.Canon.wp_region_tree [1, 4] (fun b => b = w.heap.size) (.seg [0,1,3,4] (.alt 2 (.alt 5 (.seg [6] (.alt 7 .fin .no)) .no) .no)) mixed (by kernel_rfl) ?_
  refine Go.Canon.tr_seg ?_
  simp only [List.map_cons, List.map_nil, List.getD_cons_zero, List.getD_cons_succ]
  go_wp2_with fail
  refine Go.Canon.tr_to (Go.Canon.tr_one ?_)
  simp only [List.getD_cons_zero, List.getD_cons_succ]
  go_wp2_with fail
  refine Go.Canon.tr_end (fun b h9 => by subst h9; exact Below.heap_alloc w0 _ _ Hhk0.out.lt) (Go.Canon.tr_one ?_)
  simp only [List.getD_cons_zero, List.getD_cons_succ]
  have hown0 : (w0.alloc (.cells #[] 57)).drew.ownsRow w0.heap.size 57 3 (.slice (some ⟨w0.heap.size, 0, none⟩) 0 0) 0 [] := own_below (World.ownsRow_lit (e := 57) (size := 3) w0 #[] 0 (Nat.le_refl _) (by unfold maxLen; omega) rfl) (Below.refl _ _).drew (Nat.le_refl _)
  have hsl := HhT.out.below keeps_tri (((hB1.alloc (by omega) (.cells #[] 57)).drew).mono hB0)
  obtain ⟨q3, q4⟩ := sl_cells3 hsl
  refine wpList_append_opt rfl (.tmp 5) (.tmp 7) 22 rfl w0.heap.size Tryz.underlying22 infoTri19 rfl (by decide) _ 0 [] rfl hown0 A T.length cap (flat3 T) rfl (by rw [flat3_len]) q3 q4 (flat3_one T) (by omega) (by decide) (by simp) ?_
  intro v' w5 hown5 hgrow _ _
  rw [Nat.zero_add, List.nil_append] at hown5
  obtain ⟨A5, cap5, rfl, hc5⟩ := own_form hown5
  have hne0 : some w.heap.size ≠ (Value.slice (some ⟨w0.heap.size, 0, none⟩) 0 0).ownBlock := fun e => by have := Option.some.inj (show some w.heap.size = some w0.heap.size from e); omega
  have hne1 : some (w.heap.size + 1) ≠ (Value.slice (some ⟨w0.heap.size, 0, none⟩) 0 0).ownBlock := fun e => by have := Option.some.inj (show some (w.heap.size + 1) = some w0.heap.size from e); omega
  have b0_5 := (Hhk0.out.alloc (.cells #[] 57)).drew.grown hgrow hne0
  have b1_5 := (Hhk1.out.alloc (.cells #[] 57)).drew.grown hgrow hne1
  have hbel5 : Below w.heap.size w w5 := ((hB1.alloc (by omega) (.cells #[] 57)).drew).grown hgrow (by simp; omega) (fun k hk => by have := Option.some.inj (show some w0.heap.size = some k from hk); omega)
  have d0 := b1_5.cell 0
  have d1 := b1_5.cell 1
  simp only [List.getElem?_cons_zero, List.getElem?_cons_succ] at d0 d1
  have g0 := b1_5.frozen 0
  have g1 := b1_5.frozen 1
  have hz5 := hgrow.size
  simp only [World.size_drew, World.size_alloc] at hz5
  have hb9 := (b1_5.set 0 (.int .i64 N)).set 1 (.slice A5 T.length cap5)
  have hset : ∀ (wz : World) (i : Nat) (u : Value), wz.grownBy (wz.setCell ⟨w.heap.size + 1, i, none⟩ u) (some (w.heap.size + 1)) := fun wz i u => ⟨rfl, rfl, rfl, (KeepsWalks.setCell wz _ u).size, fun b _ hb => Below.heap_setCell _ _ _ b (fun e => hb (by rw [e]))⟩
  have hl9 : (Value.slice A5 T.length cap5).ownBlock = none ∨ (Value.slice A5 T.length cap5).ownBlock ≠ some (w.heap.size + 1) := .inr fun e => by have := (hown5.lt _ e).1; omega
  have hown9 := (hown5.kept (hset w5 0 (.int .i64 N)) hl9).kept (hset _ 1 (.slice A5 T.length cap5)) hl9
  have hbel9 := (hbel5.setCell (p := ⟨w.heap.size + 1, 0, none⟩) (by show w.heap.size ≤ w.heap.size + 1; omega) (.int .i64 N)).setCell (p := ⟨w.heap.size + 1, 1, none⟩) (by show w.heap.size ≤ w.heap.size + 1; omega) (.slice A5 T.length cap5)
  have hke : Go.Canon.KeepU (fun b => b = w.heap.size) w0.drew w5 := fun b h9 => by subst h9; exact b0_5.trans Hhk0.out.symm
  have Hhne0 := Lib.hid hne0; have Hhne1 := Lib.hid hne1; have Hhown0 := Lib.hid hown0; have Hhsl := Lib.hid hsl; have Hhown5 := Lib.hid hown5; have Hhgrow := Lib.hid hgrow; have Hb0_5 := Lib.hid b0_5; have Hb1_5 := Lib.hid b1_5; have Hhb9 := Lib.hid hb9; have Hhset := Lib.hid hset; have Hhl9 := Lib.hid hl9; have Hhown9 := Lib.hid hown9; clear hne0 hne1 hown0 hsl hown5 hgrow b0_5 b1_5 hb9 hset hl9 hown9
  refine Go.Canon.tr_end hke (Go.Canon.tr_seg ?_)
  simp only [List.map_cons, List.map_nil, List.getD_cons_zero, List.getD_cons_succ]
  go_wp2_with fail
  refine Go.Canon.tr_to (Go.Canon.tr_one ?_)
  simp only [List.getD_cons_zero, List.getD_cons_succ]
  go_wp2_with fail
  refine Go.Canon.tr_end (fun b h9 => by subst h9; exact (Below.heap_setCell _ _ _ _ (by simp only; omega)).trans ((Below.heap_setCell _ _ _ _ (by simp only; omega)).trans (hke _ rfl))) (Go.Canon.tr_fin (by rfl) (List.forall_mem_cons.2 ⟨.inl ⟨_, rfl, rfl, by rw [World.cell?_drew, c0]; rfl⟩, List.forall_mem_cons.2 ⟨.inl ⟨_, rfl, rfl, by rw [World.cell?_drew, c1]; rfl⟩, fun _ h => by cases h⟩⟩) ?_)
  go_wp2_with fail
  exact ret_cell rfl rfl Hhb9.out Tryz.underlying24 rfl (by kernel_rfl) rfl ⟨⟨_, rfl, own_base Hhown9.out (by omega)⟩, hbel9⟩
end Go.Proofs.YtpbdcppaiafbgaaGreat
