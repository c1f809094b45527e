/- Walks: slices.Repeat of one number. -/
import Derived.Test.YtpmmjjbllmeneaaDD
import Derived.Laws.CopyOwn
namespace Go.Proofs.Ytpmmjjbllmeneaa
open Go Go.RowKit Go.Words Go.Mesh

theorem splice_rep (u z : Int) (n m c : Nat) (h : m + c ≤ n) :
    splice (ivals (List.replicate m u ++ List.replicate (n - m) z)) m (ivals (List.replicate c u)) = ivals (List.replicate (m + c) u ++ List.replicate (n - (m + c)) z) := by
  unfold splice ivals
  simp only [List.map_append, List.map_replicate]
  rw [List.take_left' (by simp), List.length_replicate, List.drop_append]
  simp only [List.drop_replicate, List.length_replicate]
  rw [show m - (m + c) = 0 by omega, show n - m - (m + c - m) = n - (m + c) by omega]
  simp only [List.replicate_zero, List.nil_append]
  rw [← List.append_assoc, List.replicate_append_replicate]
set_option maxRecDepth 20000 in
set_option maxHeartbeats 1000000 in
theorem repeat_calls (hmul : ∀ (x y : Nat) (w : World), x < 18446744073709551616 → y < 18446744073709551616 → Calls Try.prog 42 #[.int .u64 (x : Int), .int .u64 (y : Int)] w fun e w' => e = .returned (.tuple #[.int .u64 ((x * y / 18446744073709551616 : Nat) : Int), .int .u64 ((x * y % 18446744073709551616 : Nat) : Int)]) ∧ w' = w)
    {w : World} {gx : Nat} {u : Int} (hx : Bk w gx 3 [.int .i64 u]) (n : Nat) (hn : n ≤ 1000000) :
    Calls Try.prog 34 #[.slice (some ⟨gx, 0, none⟩) 1 1, .int .i64 (n : Int)] w fun e w' =>
      e = .returned (.slice (some ⟨w.heap.size, 0, none⟩) n n) ∧ Bk w' w.heap.size 3 (ivals (List.replicate n u)) ∧ Below w.heap.size w w' := by
  have hm := fun wz => hmul 1 n wz (by omega) (by omega)
  simp only [Nat.one_mul, Nat.div_eq_of_lt (show n < 18446744073709551616 by omega), Nat.mod_eq_of_lt (show n < 18446744073709551616 by omega)] at hm
  have hm1 := run_make_rep (P := Try.prog) 28 Try.underlying28 info_int rfl n (by omega) (by omega)
  have hgx := hx.lt
  have cx : w.cell? ⟨gx, 0, none⟩ = some (.int .i64 u) := hx.cell 0
  have hbk := Bk.new w 3 (ivals (List.replicate n (0 : Int)))
  have harr : (ivals (List.replicate n (0 : Int))).toArray = Array.replicate n (.int .i64 0) := by unfold ivals; rw [List.map_replicate, List.toArray_replicate]
  rw [harr] at hbk
  have hb1 := (Below.refl w.heap.size w).alloc (Nat.le_refl _) (.cells (Array.replicate n (.int .i64 0)) 3)
  have hsz : (w.alloc (.cells (Array.replicate n (.int .i64 0)) 3)).heap.size = w.heap.size + 1 := by simp
  have Hhm := Lib.hid hm; clear hm; have Hhx := Lib.hid hx; clear hx; have Hhbk := Lib.hid hbk; clear hbk; have Hharr := Lib.hid harr; clear harr
  go_enter Try.func34, Try.ntmps34
  go_wp2_with fail
  refine (Hhm.out w).mono ?_
  rintro e w' ⟨rfl, rfl⟩
  have hi1 : (Try.prog.info? 3).map (·.size) = some 1 := by kernel_rfl
  obtain ⟨w1, hw1⟩ : ∃ w1, w1 = w'.alloc (.cells (Array.replicate n (.int .i64 0)) 3) := ⟨_, rfl⟩
  have hk1 : Bk w1 w'.heap.size 3 (ivals (List.replicate n (0 : Int))) := by rw [hw1]; exact Hhbk.out
  have hd1 : Below w'.heap.size w' w1 := by rw [hw1]; exact (Below.refl w'.heap.size w').alloc (Nat.le_refl _) _
  have cx1 := (hd1.cell (p := ⟨gx, 0, none⟩) hgx).trans cx
  have hcs : ∀ (c : Nat) (v : Value), v ∈ ivals (List.replicate c u) → v.oneCell' = true := fun c v hv => by
    unfold ivals at hv
    obtain ⟨y, _, rfl⟩ := List.mem_map.1 hv
    rfl
  have hca : ∀ (c j : Nat) (v : Value), (ivals (List.replicate c u))[j]? = some v → j < c ∧ v = .int .i64 u := fun c j v hv => by
    unfold ivals at hv
    simp only [List.map_replicate, List.getElem?_replicate] at hv
    split at hv
    · rename_i h9; exact ⟨h9, (Option.some.inj hv).symm⟩
    · cases hv
  have hlen : ∀ (c : Nat) (z : Int), (ivals (List.replicate c z)).length = c := fun c z => by unfold ivals; simp
  have hsp0 := splice_rep u 0 n 0 (min 1 n) (by omega)
  simp only [List.replicate_zero, List.nil_append, Nat.sub_zero, Nat.zero_add] at hsp0
  have hsrc : ∀ j v, (ivals (List.replicate (min 1 n) u))[j]? = some v → w1.cell? ((⟨gx, 0, none⟩ : Addr).add j) = some v := fun j v hv => by
    obtain ⟨h8, rfl⟩ := hca _ j v hv
    obtain rfl : j = 0 := by omega
    exact cx1
  have Hhk1 := Lib.hid hk1; clear hk1; have Hhcs := Lib.hid hcs; clear hcs; have Hhca := Lib.hid hca; clear hca; have Hhlen := Lib.hid hlen; clear hlen; have Hhsp0 := Lib.hid hsp0; clear hsp0; have Hhsrc := Lib.hid hsrc; clear hsrc
  go_wp2_with (rw [← hw1]; refine wpList_copy_splice rfl (.tmp 31) (.tmp 32) 28 28 rfl 3 Try.underlying28 hi1 (some ⟨w'.heap.size, 0, none⟩) (some ⟨gx, 0, none⟩) n n 1 1 rfl rfl w'.heap.size 0 (ivals (List.replicate n (0 : Int))) 3 Hhk1.out (ivals (List.replicate (min 1 n) u)) (Hhlen.out _ _) (fun _ => ⟨rfl, _, rfl, Hhsrc.out⟩) (by rw [Hhlen.out, Hhlen.out]; omega) (fun v hv => Hhcs.out _ v hv) w'.heap.size w' hd1 (Nat.le_refl _) ?_; intro w2 hg2 hb2)
  have hk2 : Bk w2 w'.heap.size 3 (ivals (List.replicate (min 1 n) u ++ List.replicate (n - min 1 n) 0)) := by
    have := hg2.out
    rwa [Hhsp0.out] at this
  have hll := Hhlen.out (min 1 n) u
  rw [hll]
  clear hm1 cx cx1 hw1 hd1 hb1 hsz hg2 hll Hhbk Hhk1 Hhsrc Hhsp0 Hhx Hharr Hhm
  have Hhk2 := Lib.hid hk2; clear hk2
  go_loopw [8] (fun iv wr => ∃ m : Nat, m ≤ n ∧ (m = 0 → n = 0) ∧ iv = .int .i64 (m : Int) ∧ Bk wr w'.heap.size 3 (ivals (List.replicate m u ++ List.replicate (n - m) 0)) ∧ Below w'.heap.size w' wr) (fun iv _ => n - (intOf iv).toNat)
  case atStart => exact ⟨min 1 n, by omega, by omega, rfl, Hhk2.out, hb2⟩
  case round =>
    obtain ⟨m, hm, hm0, rfl, hk, hbel⟩ := hrel
    by_cases hml : m < n
    · have hmi : (m : Int) < (n : Int) := by omega
      have hcell : ∀ c, c ≤ m → ∀ j v, (ivals (List.replicate c u))[j]? = some v → wr.drew.cell? ((⟨w'.heap.size, 0, none⟩ : Addr).add j) = some v := fun c hc j v hv => by
        rw [World.cell?_drew]
        obtain ⟨h8, rfl⟩ := Hhca.out _ j v hv
        have e : (⟨w'.heap.size, 0, none⟩ : Addr).add j = ⟨w'.heap.size, j, none⟩ := by rw [Addr.add_lit, Nat.zero_add]
        rw [e, hk.cell j]
        unfold ivals
        rw [List.getElem?_map, List.getElem?_append_left (by rw [List.length_replicate]; omega), List.getElem?_replicate, if_pos (by omega)]
        rfl
      have hsp := splice_rep u 0 n m (min m (n - m)) (by omega)
      have hlc : (ivals (List.replicate m u ++ List.replicate (n - m) (0 : Int))).length = n := by unfold ivals; simp; omega
      have hbd := hbel.drew
      have hkd := hk.drew
      obtain ⟨c, hc⟩ : ∃ c, c = min m (n - m) := ⟨_, rfl⟩
      rw [← hc] at hsp
      have hl2 := Hhlen.out c u
      have hc1 : c ≤ m := by omega
      have hc2 : m + c ≤ n := by omega
      have hc3 : 1 ≤ c := by omega
      have Hhk := Lib.hid hk; clear hk; have Hhkd := Lib.hid hkd; clear hkd; have Hhcell := Lib.hid hcell; clear hcell; have Hhsp := Lib.hid hsp; clear hsp; have Hhlc := Lib.hid hlc; clear hlc; have Hhc := Lib.hid hc; clear hc
      go_wp2_with fail
      refine Go.Canon.wp_region_text mixed (by kernel_rfl) ?_
      go_wp2_with (refine wpList_copy_splice rfl (.tmp 41) (.tmp 44) 28 28 rfl 3 Try.underlying28 hi1 (some ⟨w'.heap.size, m, none⟩) (some ⟨w'.heap.size, 0, none⟩) (n - m) (n - m) m n rfl rfl w'.heap.size m (ivals (List.replicate m u ++ List.replicate (n - m) (0 : Int))) 3 Hhkd.out (ivals (List.replicate c u)) (hl2.trans Hhc.out) (fun _ => ⟨rfl, _, rfl, Hhcell.out c (by omega)⟩) (by rw [hl2, Hhlc.out]; omega) (fun v hv => Hhcs.out _ v hv) w'.heap.size w' hbd (Nat.le_refl _) ?_; intro w3 hg3 hb3; rw [hl2]; rw [Hhsp.out] at hg3)
      refine Go.Canon.chk (by rfl) ?_
      go_wp2_with fail
      exact ⟨⟨m + c, by omega, by omega, by simp, hg3.out, hb3⟩, by simp [intOf]; omega⟩
    · obtain rfl : m = n := by omega
      rw [Nat.sub_self, List.replicate_zero, List.append_nil] at hk
      have Hhk := Lib.hid hk; clear hk
      go_wp2_with fail
      go_ret
      exact ⟨rfl, Hhk.out, hbel⟩
end Go.Proofs.Ytpmmjjbllmeneaa
