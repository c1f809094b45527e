/- Walks: a table's Facing, Corner, Opp. Walks: ring's before, after. Walks: ring's there, first. -/
import Derived.Test.YtpbdcppaiafbgaaTB
namespace Go.Mesh
def oi : Option Nat → Int
  | some c => c
  | none => -1
theorem oi_range (o : Option Nat) : -1 ≤ oi o := by cases o <;> simp [oi]
def tOpp (T : List T3) (c : Int) : Int := oi (facing T ((tEdge T c).2, (tEdge T c).1))
theorem tOpp_at {T : List T3} {c : Nat} (h : c < 3 * T.length) : tOpp T c = oi (opp T c) := by
  unfold tOpp
  rw [tEdge_at h]
  rfl
def tCorn (T : List T3) (N : Int) (v : Int) : Int := if 0 ≤ v ∧ v < N then oi (cornerOf T v) else -1
end Go.Mesh
namespace Go.Proofs.Ytpbdcppaiafbgaa
open Go Go.RowKit Go.Words Go.Mesh

set_option maxRecDepth 20000 in
theorem facing_calls {w : World} {B : Nat} {pv : Value} {N : Int} {T : List T3} (h : Tab w B pv N T) (x y : Int) (hx : I64 x) (hy : I64 y) :
    Calls Try.prog 51 #[pv, .agg #[.int .i64 x, .int .i64 y]] w fun e w' => e = .returned (.int .i64 (oi (facing T (x, y)))) ∧ RowKit.Below w.heap.size w w' := by
  obtain ⟨g, vt, gm, vf, m, F, rfl, htab, hm, hgm, hlook, hF, hFirst⟩ := h
  have hg := htab.blk.lt
  have hbl := hm.lt
  have t2 : w.cell? ⟨g, 2, none⟩ = some (.map (some gm)) := htab.blk.cell 2
  have hb1 := (RowKit.Below.refl w.heap.size w).alloc (Nat.le_refl _) (.cells #[.int .i64 x, .int .i64 y] 47)
  have mA := hm.alloc (.cells #[.int .i64 x, .int .i64 y] 47)
  have eA := Bk.new w 47 [.int .i64 x, .int .i64 y]
  have tA := htab.blk.alloc (.cells #[.int .i64 x, .int .i64 y] 47)
  have hl := hlook (x, y) ⟨hx, hy⟩
  have Hhtab := Lib.hid htab; clear htab; have Hhm := Lib.hid hm; clear hm; have Hhlook := Lib.hid hlook; clear hlook; have HhF := Lib.hid hF; clear hF; have HhFirst := Lib.hid hFirst; clear hFirst; have HmA := Lib.hid mA; clear mA; have HeA := Lib.hid eA; clear eA; have HtA := Lib.hid tA; clear tA; have Hhl := Lib.hid hl; clear hl
  go_enter Try.func51, Try.ntmps51
  go_wp2_with fail
  obtain ⟨wo, hwo⟩ : ∃ wo : World, wo = w.alloc (.cells #[.int .i64 x, .int .i64 y] 47) := ⟨_, rfl⟩
  rw [← hwo] at hb1 HmA HeA HtA ⊢
  clear hwo
  have t2 : wo.cell? ⟨g, 2, none⟩ = some (.map (some gm)) := HtA.out.cell 2
  have e0 : wo.cell? ⟨w.heap.size, 0, none⟩ = some (.int .i64 x) := HeA.out.cell 0
  have e1 : wo.cell? ⟨w.heap.size, 1, none⟩ = some (.int .i64 y) := HeA.out.cell 1
  refine Go.Canon.wp_region_tree [4] (fun _ => True) (.seg [0,4] (.alt 1 (.seg [2,3] (.alt 5 (.seg [6,7,8,9,10] .fin) .no)) .no)) mixed (by kernel_rfl) ?_
  refine Go.Canon.tr_seg ?_
  simp only [List.map_cons, List.map_nil, List.getD_cons_zero, List.getD_cons_succ]
  go_wp2_with fail
  refine Go.Canon.tr_to (Go.Canon.tr_one ?_)
  simp only [List.getD_cons_zero, List.getD_cons_succ]
  go_wp2_with fail
  refine Go.Canon.tr_end (fun _ _ => rfl) (Go.Canon.tr_seg ?_)
  simp only [List.map_cons, List.map_nil, List.getD_cons_zero, List.getD_cons_succ]
  go_wp2_with fail
  refine Go.Canon.tr_to (Go.Canon.tr_one ?_)
  simp only [List.getD_cons_zero, List.getD_cons_succ]
  refine wpList_look_ok _ rfl _ _ 67 rfl 47 3 keyE Try.underlying67 zero_int gm m rfl HmA.out.drew (x, y) rfl ⟨hx, hy⟩ ?_
  rw [Hhl.out]
  go_wp2_with fail
  refine Go.Canon.tr_end (fun _ _ => rfl) (Go.Canon.tr_seg ?_)
  simp only [List.map_cons, List.map_nil, List.getD_cons_zero, List.getD_cons_succ]
  cases hf : facing T (x, y)
  · go_wp2_with fail
    refine Go.Canon.tr_to (Go.Canon.tr_fin (by rfl) (List.forall_mem_cons.2 ⟨.inl ⟨_, rfl, trivial, by rw [World.cell?_drew, e0]; rfl⟩, fun _ h => by cases h⟩) ?_)
    go_wp2
    go_ret
    exact ⟨by rw [hf]; rfl, hb1.drew⟩
  · go_wp2_with fail
    refine Go.Canon.tr_to (Go.Canon.tr_fin (by rfl) (List.forall_mem_cons.2 ⟨.inl ⟨_, rfl, trivial, by rw [World.cell?_drew, e0]; rfl⟩, fun _ h => by cases h⟩) ?_)
    go_wp2
    go_ret
    exact ⟨by rw [hf]; rfl, hb1.drew⟩

theorem tEdge_I64 {T : List T3} {N : Int} (hs : Surf N T) (c : Int) : I64 (tEdge T c).1 ∧ I64 (tEdge T c).2 := by
  have hm := hs.nmax
  have h1 : ∀ d : Int, I64 (tVert T d) := by
    intro d
    unfold tVert
    split
    · rename_i h
      have := hs.rng d.toNat (by have := h.1; have := h.2; omega)
      unfold I64
      omega
    · unfold I64; omega
  exact ⟨h1 _, h1 _⟩
set_option maxRecDepth 20000 in
theorem opp_calls {w : World} {B : Nat} {pv : Value} {N : Int} {T : List T3} (h : Tab w B pv N T) (hs : Surf N T) (c : Int) :
    Calls Try.prog 40 #[pv, .int .i64 c] w fun e w' => e = .returned (.int .i64 (tOpp T c)) ∧ RowKit.Below w.heap.size w w' := by
  have h0 := h
  have hle := h.le
  obtain ⟨g, vt, gm, vf, m, F, rfl, htab, _⟩ := h
  have he := edge_calls htab c
  obtain ⟨hx, hy⟩ := tEdge_I64 hs c
  have hopp : tOpp T c = oi (facing T ((tEdge T c).2, (tEdge T c).1)) := rfl
  rw [hopp]
  clear hopp
  generalize tEdge T c = ed at *
  obtain ⟨x, y⟩ := ed
  simp only [] at hx hy ⊢
  have hf := fun wz (hz : Tab wz B (.pointer (some ⟨g, 0, none⟩)) N T) => facing_calls hz y x hy hx
  change Calls _ _ _ _ (fun e w' => e = .returned (.agg #[.int .i64 x, .int .i64 y]) ∧ _) at he
  generalize oi (facing T (y, x)) = r at *
  have Hh0 := Lib.hid h0; clear h0; have Hhs := Lib.hid hs; clear hs; have Hhtab := Lib.hid htab; clear htab; have Hhe := Lib.hid he; clear he; have Hhf := Lib.hid hf; clear hf; have Hhx := Lib.hid hx; clear hx; have Hhy := Lib.hid hy; clear hy
  go_enter Try.func40, Try.ntmps40
  go_wp2_with fail
  refine Hhe.out.mono ?_
  rintro e w1 ⟨rfl, hb1⟩
  have hb2 := hb1.alloc hb1.size (.cells #[.int .i64 x, .int .i64 y] 47)
  go_wp2_with fail
  refine (Hhf.out _ (Hh0.out.below hb2 hle)).mono ?_
  rintro e w2 ⟨rfl, hb3⟩
  have hb4 := below_call hb2 hb3 hb2.size
  go_wp2
  go_ret
  exact ⟨rfl, hb4⟩
end Go.Proofs.Ytpbdcppaiafbgaa

namespace Go.Mesh
theorem tNext_at {T : List T3} {c : Nat} (h : c < 3 * T.length) : tNext T (c : Int) = (nx c : Int) := by
  unfold tNext
  rw [if_pos ⟨by omega, by omega⟩]; simp
theorem tPrev_at {T : List T3} {c : Nat} (h : c < 3 * T.length) : tPrev T (c : Int) = (pv c : Int) := by
  unfold tPrev
  rw [if_pos ⟨by omega, by omega⟩]; simp
end Go.Mesh
namespace Go.Proofs.Ytpbdcppaiafbgaa
open Go Go.RowKit Go.Words Go.Mesh

end Go.Proofs.Ytpbdcppaiafbgaa

namespace Go.Proofs.Ytpbdcppaiafbgaa
open Go Go.RowKit Go.Words Go.Mesh

end Go.Proofs.Ytpbdcppaiafbgaa
