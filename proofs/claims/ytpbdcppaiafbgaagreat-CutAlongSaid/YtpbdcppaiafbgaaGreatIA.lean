/- Walks: cut.named, a cutter, its add and idle. Walks: cutter.idle, slices.ContainsFunc of it, cutter.now. Walks: rows of numbers, sorted by their least ones (cut's sectors). What stands in the boxes of cutter.sectors. -/
import Derived.Deep.Cut
import Derived.Deep.CutBlock
import Derived.Deep.DeepCutAuto
import Derived.Test.YtpbdcppaiafbgaaGreatTI
import Derived.Test.YtpbdcppaiafbgaaGreatHP
import Derived.Test.YtpbdcppaiafbgaaGreatTS
import Derived.Shelf.SlSortCmp.Whole1
import Derived.Shelf.Slices.Turned
import Derived.Test.YtpbdcppaiafbgaaGreatMD
namespace Go.Mesh
def addC (T : List T3) (L : List (Int × Int)) (e : Int × Int) : Int :=
  if oi (facing T e) < 0 ∧ oi (facing T (e.2, e.1)) < 0 then 8 else if oi (facing T e) < 0 ∨ oi (facing T (e.2, e.1)) < 0 then 13 else if nm e ∈ L.map nm then 9 else 0
theorem oi_none {o : Option Nat} (h : ¬ oi o < 0) : ∃ c, o = some c := by
  cases o with
  | none => exact absurd (by decide) h
  | some c => exact ⟨c, rfl⟩
theorem endsC_snoc (L : List (Int × Int)) (e : Int × Int) (v : Int) : endsC (L ++ [e]) v = endsC L v + if e.1 = v ∨ e.2 = v then 1 else 0 := by
  unfold endsC
  rw [List.countP_append, List.countP_cons, List.countP_nil]
  by_cases h : e.1 = v ∨ e.2 = v
  · rw [if_pos h, if_pos (by simpa using h)]
  · rw [if_neg h, if_neg (by simpa using h)]
theorem endsC_le (L : List (Int × Int)) (v : Int) : endsC L v ≤ L.length := List.countP_le_length
end Go.Mesh
namespace Go.Proofs.YtpbdcppaiafbgaaGreat
open Go Go.RowKit Go.Words Go.Mesh

theorem ret_e2 {a b x y : Int} (h1 : x = a) (h2 : y = b) : Ending.returned (.agg #[.int .i64 x, .int .i64 y]) = Ending.returned (.agg #[.int .i64 a, .int .i64 b]) := by rw [h1, h2]
theorem named_calls (e : Int × Int) (w : World) : Calls Tryz.prog 105 #[enc2 e] w fun r w' => r = .returned (enc2 (nm e)) ∧ Below w.heap.size w w' := by
  obtain ⟨a, b⟩ := e
  change Calls Tryz.prog 105 #[.agg #[.int .i64 a, .int .i64 b]] w fun r w' => r = .returned (.agg #[.int .i64 (min a b), .int .i64 (max a b)]) ∧ _
  go_enter Tryz.func105, Tryz.ntmps105
  go_wp2
  all_goals exact ret_cell rfl rfl (Bk.new' (n := w.heap.size + 1) (w := w.alloc (.cells #[.int .i64 a, .int .i64 b] 39)) 39 _ (by simp)) Tryz.underlying39 rfl (by kernel_rfl) rfl ⟨ret_e2 (by omega) (by omega), ((Below.refl w.heap.size w).alloc (Nat.le_refl _) _).alloc (by simp) _⟩

structure Ctr (w : World) (B g bc be : Nat) (tv : Value) (N : Int) (T : List T3) (L : List (Int × Int)) (n : Int) (sv wv : Value) (X : List T3) (O : List Int) : Prop where
  blk : Bk w g 106 [tv, .map (some bc), .map (some be), .int .i64 n, sv, wv]
  tab : Tab w B tv N T
  cuts : ∃ S : List ((Int × Int) × Unit), Mp enc2 ok2 (fun _ : Unit => .bool true) w bc S ∧ ∀ e, (Words.look S e).isSome = true ↔ e ∈ L.map nm
  ends : ∃ E : List (Int × Int), Mp enc1 I64 enc1 w be E ∧ ∀ v, (Words.look E v).getD 0 = (endsC L v : Nat)
  sow : w.ownsRow B 57 3 sv X.length (flat3 X)
  wow : w.ownsRow B 3 1 wv O.length (ivals O)
  le : B ≤ g ∧ B ≤ bc ∧ B ≤ be
  ne : bc ≠ be
theorem Ctr.below {w w' : World} {B g bc be : Nat} {tv sv wv : Value} {N n : Int} {T X : List T3} {L : List (Int × Int)} {O : List Int} (h : Ctr w B g bc be tv N T L n sv wv X O) (hb : Below w.heap.size w w') : Ctr w' B g bc be tv N T L n sv wv X O where
  blk := h.blk.below hb h.blk.lt
  tab := h.tab.below hb h.tab.le
  cuts := by obtain ⟨S, h1, h2⟩ := h.cuts; exact ⟨S, h1.below hb h1.lt, h2⟩
  ends := by obtain ⟨E, h1, h2⟩ := h.ends; exact ⟨E, h1.below hb h1.lt, h2⟩
  sow := own_below h.sow hb (Nat.le_refl _)
  wow := own_below h.wow hb (Nat.le_refl _)
  le := h.le
  ne := h.ne
theorem look_num {E : List (Int × Int)} {v : Int} {n : Int} (h : (Words.look E v).getD 0 = n) : ((Words.look E v).map enc1).getD (.int .i64 0) = .int .i64 n := by
  rw [← h]
  cases Words.look E v <;> rfl
theorem ends_put {E : List (Int × Int)} {L : List (Int × Int)} {a b : Int} (h : ∀ v, (Words.look E v).getD 0 = (endsC L v : Nat)) : ∀ v, (Words.look (Words.put (Words.put E a ((endsC L a : Nat) + 1)) b ((endsC L b : Nat) + 1)) v).getD 0 = (endsC (L ++ [(a, b)]) v : Nat) := fun v => by
  rw [look_put, look_put, endsC_snoc]
  by_cases h1 : b = v
  · subst h1
    rw [if_pos rfl, if_pos (.inr rfl)]
    simp
  · by_cases h2 : a = v
    · subst h2
      rw [if_neg h1, if_pos rfl, if_pos (.inl rfl)]
      simp
    · rw [if_neg h1, if_neg h2, if_neg (by simp [h1, h2]), h v]
      simp
theorem cuts_put {S : List ((Int × Int) × Unit)} {L : List (Int × Int)} {e : Int × Int} (h : ∀ x, (Words.look S x).isSome = true ↔ x ∈ L.map nm) : ∀ x, (Words.look (Words.put S (nm e) ()) x).isSome = true ↔ x ∈ (L ++ [e]).map nm := fun x => by
  rw [look_put, List.map_append, List.mem_append, List.map_cons, List.map_nil, List.mem_singleton]
  by_cases h9 : nm e = x
  · rw [if_pos h9]; simp [h9]
  · rw [if_neg h9, h x]
    exact ⟨.inl, fun h8 => h8.resolve_right fun h7 => h9 h7.symm⟩
theorem bk_ne_mp {w : World} {g b : Nat} {t : TypeId} {cs : List Value} {κ α : Type} {enc : κ → Value} {ok : κ → Prop} {ev : α → Value} {l : List (κ × α)} (h : Bk w g t cs) (hm : Mp enc ok ev w b l) : g ≠ b := fun e => by
  subst e
  obtain ⟨es, ck, hb, _⟩ := hm.block
  unfold Bk at h
  rw [hb] at h
  cases h
theorem own_drew {w : World} {base size n : Nat} {e : TypeId} {v : Value} {xs : List Value} (h : w.ownsRow base e size v n xs) : w.drew.ownsRow base e size v n xs := own_below h (Below.refl _ _).drew (Nat.le_refl _)
theorem look_yes {S : List ((Int × Int) × Unit)} {x : Int × Int} : ((Words.look S x).map fun _ : Unit => Value.bool true).getD (.bool false) = .bool (Words.look S x).isSome := by
  cases Words.look S x <;> rfl
def AddEnd (w w' : World) (B g bc be : Nat) (tv : Value) (N : Int) (T : List T3) (L : List (Int × Int)) (e : Int × Int) (n : Int) (sv wv : Value) (X : List T3) (O : List Int) : Prop :=
  Below B w w' ∧ Ctr w' B g bc be tv N T (if addC T L e = 0 then L ++ [e] else L) n sv wv X O
theorem addEnd_no {w w' : World} {B g bc be : Nat} {tv sv wv : Value} {N n : Int} {T X : List T3} {L : List (Int × Int)} {e : Int × Int} {O : List Int} (hb : Below B w w') (h : Ctr w' B g bc be tv N T L n sv wv X O) (hc : addC T L e ≠ 0) : AddEnd w w' B g bc be tv N T L e n sv wv X O := ⟨hb, by rw [if_neg hc]; exact h⟩
set_option maxRecDepth 40000 in
set_option maxHeartbeats 8000000 in
theorem add_calls {w : World} {B g bc be : Nat} {tv sv wv : Value} {N n : Int} {T X : List T3} {L : List (Int × Int)} {O : List Int} (h : Ctr w B g bc be tv N T L n sv wv X O) (hs : Surf N T) (e : Int × Int) (he : ok2 e) (hL : L.length ≤ 1000) :
    Calls Tryz.prog 63 #[.pointer (some ⟨g, 0, none⟩), enc2 e] w fun r w' => r = .returned (.int .i64 (addC T L e)) ∧ AddEnd w w' B g bc be tv N T L e n sv wv X O := by
  obtain ⟨a, b⟩ := e
  have hb1 := (Below.refl w.heap.size w).alloc (Nat.le_refl _) (.cells #[.int .i64 a, .int .i64 b] 39)
  have hk1 := Bk.new w 39 [.int .i64 a, .int .i64 b]
  have h1 := h.below hb1
  have hlt := h.blk.lt
  have hfa := fun wz (hz : Below w.heap.size w wz) => facing_calls ((h.below hz).tab) a b he.1 he.2
  have hfb := fun wz (hz : Below w.heap.size w wz) => facing_calls ((h.below hz).tab) b a he.2 he.1
  obtain ⟨tg, htg⟩ : ∃ tg, tv = .pointer tg := by
    obtain ⟨g9, _, _, _, _, _, h9, _⟩ := h.tab
    exact ⟨_, h9⟩
  subst htg
  have hz1 : w.heap.size < (w.alloc (.cells #[.int .i64 a, .int .i64 b] 39)).heap.size := by simp
  have hnes : g ≠ bc ∧ g ≠ be ∧ bc < w.heap.size ∧ be < w.heap.size := by
    obtain ⟨S0, hS0, _⟩ := h.cuts
    obtain ⟨E0, hE0, _⟩ := h.ends
    exact ⟨bk_ne_mp h.blk hS0, bk_ne_mp h.blk hE0, hS0.lt, hE0.lt⟩
  change Calls Tryz.prog 63 #[.pointer (some ⟨g, 0, none⟩), .agg #[.int .i64 a, .int .i64 b]] w _
  obtain ⟨w1, hw1⟩ : ∃ w1, w1 = w.alloc (.cells #[.int .i64 a, .int .i64 b] 39) := ⟨_, rfl⟩
  rw [← hw1] at hb1 hk1 h1 hz1
  have e0 : w1.cell? ⟨w.heap.size, 0, none⟩ = some (.int .i64 a) := hk1.cell 0
  have e1 : w1.cell? ⟨w.heap.size, 1, none⟩ = some (.int .i64 b) := hk1.cell 1
  have c0 : w1.cell? ⟨g, 0, none⟩ = some (.pointer tg) := h1.blk.cell 0
  have Hh := Lib.hid h; clear h; have Hh1 := Lib.hid h1; clear h1; have Hhk1 := Lib.hid hk1; clear hk1; have Hhfa := Lib.hid hfa; clear hfa; have Hhfb := Lib.hid hfb; clear hfb; have Hhe := Lib.hid he; clear he
  go_enter Tryz.func63, Tryz.ntmps63
  go_upto_region 1 with fail
  rw [← hw1]
  clear hw1
  go_cut [5, 6] (fun s5 s6 wx => s5 = .int .i64 (oi (facing T (a, b))) ∧ s6 = .int .i64 (oi (facing T (b, a))) ∧ Below w1.heap.size w1 wx)
  case first =>
    refine Go.Canon.wp_region_tree [3, 4, 9, 11, 13] (fun b => b = g ∨ b = w.heap.size) (.seg [0,4,6,10,11,12,13,14] (.alt 1 (.seg [2,3] (.alt 5 (.alt 7 (.seg [8,9] (.alt 15 (.seg [16,17] .fin) .no)) .no) (.alt 7 (.seg [8,9] (.alt 5 (.alt 15 (.seg [16,17] .fin) .no) .no)) .no))) (.alt 7 (.seg [8,9] (.alt 1 (.seg [2,3] (.alt 5 (.alt 15 (.seg [16,17] .fin) .no) .no)) .no)) .no))) mixed (by kernel_rfl) ?_
    have hfa1 := Hhfa.out w1.drew hb1.drew
    have hfb1 := fun wz (hz : Below w1.heap.size w1 wz) => Hhfb.out wz (hb1.trans (hz.mono hb1.size))
    have Hhfa1 := Lib.hid hfa1; clear hfa1; have Hhfb1 := Lib.hid hfb1; clear hfb1
    refine Go.Canon.tr_seg ?_
    simp only [List.map_cons, List.map_nil, List.getD_cons_zero, List.getD_cons_succ]
    go_wp2_with fail
    refine Go.Canon.tr_to (Go.Canon.tr_alt ?_ (Go.Canon.tr_one ?_))
    · simp only [List.getD_cons_zero, List.getD_cons_succ]
      go_wp2_with fail
      refine Go.Canon.tr_end (fun _ _ => rfl) (Go.Canon.tr_seg ?_)
      simp only [List.map_cons, List.map_nil, List.getD_cons_zero, List.getD_cons_succ]
      go_wp2_with fail
      refine Go.Canon.tr_to (Go.Canon.tr_alt ?_ (Go.Canon.tr_one ?_))
      · simp only [List.getD_cons_zero, List.getD_cons_succ]
        go_wp2_with fail
        refine Hhfa1.out.mono ?_
        rintro e w2 ⟨rfl, hb2⟩
        have hb2' := (Below.refl w1.heap.size w1).drew.trans hb2
        go_wp2_with fail
        refine Go.Canon.tr_end (fun b hb => hb2'.block _ (by rcases hb with rfl | rfl <;> omega)) (Go.Canon.tr_one ?_)
        simp only [List.getD_cons_zero, List.getD_cons_succ]
        go_wp2_with fail
        refine Go.Canon.tr_end (fun b hb => hb2'.block _ (by rcases hb with rfl | rfl <;> omega)) (Go.Canon.tr_seg ?_)
        simp only [List.map_cons, List.map_nil, List.getD_cons_zero, List.getD_cons_succ]
        have c0' := (hb2'.cell (p := ⟨g, 0, none⟩) (by show g < _; omega)).trans c0
        go_wp2_with fail
        refine Go.Canon.tr_to (Go.Canon.tr_one ?_)
        simp only [List.getD_cons_zero, List.getD_cons_succ]
        go_wp2_with fail
        refine (Hhfb1.out w2 hb2').mono ?_
        rintro e w3 ⟨rfl, hb3⟩
        have hb3' := hb2'.trans (hb3.mono hb2'.size)
        go_wp2_with fail
        refine Go.Canon.tr_end (fun b hb => hb3'.block _ (by rcases hb with rfl | rfl <;> omega)) (Go.Canon.tr_seg ?_)
        simp only [List.map_cons, List.map_nil, List.getD_cons_zero, List.getD_cons_succ]
        go_wp2_with fail
        refine Go.Canon.tr_to (Go.Canon.tr_fin (by rfl) (List.forall_mem_cons.2 ⟨.inl ⟨_, rfl, .inl rfl, by rw [World.cell?_drew, c0]; rfl⟩, List.forall_mem_cons.2 ⟨.inl ⟨_, rfl, .inr rfl, by rw [World.cell?_drew, e0]; rfl⟩, List.forall_mem_cons.2 ⟨.inl ⟨_, rfl, .inl rfl, by rw [World.cell?_drew, c0]; rfl⟩, List.forall_mem_cons.2 ⟨.inl ⟨_, rfl, .inr rfl, by rw [World.cell?_drew, e1]; rfl⟩, List.forall_mem_cons.2 ⟨.inl ⟨_, rfl, .inr rfl, by rw [World.cell?_drew, e0]; rfl⟩, fun _ h => by cases h⟩⟩⟩⟩⟩) ?_)
        go_wp2_with fail
        go_meet
        exact ⟨rfl, rfl, hb3'⟩
      · simp only [List.getD_cons_zero, List.getD_cons_succ]
        go_wp2_with fail
        refine Go.Canon.tr_end (fun _ _ => rfl) (Go.Canon.tr_seg ?_)
        simp only [List.map_cons, List.map_nil, List.getD_cons_zero, List.getD_cons_succ]
        go_wp2_with fail
        refine Go.Canon.tr_to (Go.Canon.tr_one ?_)
        simp only [List.getD_cons_zero, List.getD_cons_succ]
        go_wp2_with fail
        refine Hhfa1.out.mono ?_
        rintro e w2 ⟨rfl, hb2⟩
        have hb2' := (Below.refl w1.heap.size w1).drew.trans hb2
        go_wp2_with fail
        refine Go.Canon.tr_end (fun b hb => hb2'.block _ (by rcases hb with rfl | rfl <;> omega)) (Go.Canon.tr_one ?_)
        simp only [List.getD_cons_zero, List.getD_cons_succ]
        go_wp2_with fail
        refine (Hhfb1.out w2 hb2').mono ?_
        rintro e w3 ⟨rfl, hb3⟩
        have hb3' := hb2'.trans (hb3.mono hb2'.size)
        go_wp2_with fail
        refine Go.Canon.tr_end (fun b hb => hb3'.block _ (by rcases hb with rfl | rfl <;> omega)) (Go.Canon.tr_seg ?_)
        simp only [List.map_cons, List.map_nil, List.getD_cons_zero, List.getD_cons_succ]
        go_wp2_with fail
        refine Go.Canon.tr_to (Go.Canon.tr_fin (by rfl) (List.forall_mem_cons.2 ⟨.inl ⟨_, rfl, .inl rfl, by rw [World.cell?_drew, c0]; rfl⟩, List.forall_mem_cons.2 ⟨.inl ⟨_, rfl, .inr rfl, by rw [World.cell?_drew, e0]; rfl⟩, List.forall_mem_cons.2 ⟨.inl ⟨_, rfl, .inl rfl, by rw [World.cell?_drew, c0]; rfl⟩, List.forall_mem_cons.2 ⟨.inl ⟨_, rfl, .inr rfl, by rw [World.cell?_drew, e1]; rfl⟩, List.forall_mem_cons.2 ⟨.inl ⟨_, rfl, .inr rfl, by rw [World.cell?_drew, e0]; rfl⟩, fun _ h => by cases h⟩⟩⟩⟩⟩) ?_)
        go_wp2_with fail
        go_meet
        exact ⟨rfl, rfl, hb3'⟩
    · simp only [List.getD_cons_zero, List.getD_cons_succ]
      go_wp2_with fail
      refine Go.Canon.tr_end (fun _ _ => rfl) (Go.Canon.tr_seg ?_)
      simp only [List.map_cons, List.map_nil, List.getD_cons_zero, List.getD_cons_succ]
      go_wp2_with fail
      refine Go.Canon.tr_to (Go.Canon.tr_one ?_)
      simp only [List.getD_cons_zero, List.getD_cons_succ]
      go_wp2_with fail
      refine Go.Canon.tr_end (fun _ _ => rfl) (Go.Canon.tr_seg ?_)
      simp only [List.map_cons, List.map_nil, List.getD_cons_zero, List.getD_cons_succ]
      go_wp2_with fail
      refine Go.Canon.tr_to (Go.Canon.tr_one ?_)
      simp only [List.getD_cons_zero, List.getD_cons_succ]
      go_wp2_with fail
      refine Hhfa1.out.mono ?_
      rintro e w2 ⟨rfl, hb2⟩
      have hb2' := (Below.refl w1.heap.size w1).drew.trans hb2
      go_wp2_with fail
      refine Go.Canon.tr_end (fun b hb => hb2'.block _ (by rcases hb with rfl | rfl <;> omega)) (Go.Canon.tr_one ?_)
      simp only [List.getD_cons_zero, List.getD_cons_succ]
      go_wp2_with fail
      refine (Hhfb1.out w2 hb2').mono ?_
      rintro e w3 ⟨rfl, hb3⟩
      have hb3' := hb2'.trans (hb3.mono hb2'.size)
      go_wp2_with fail
      refine Go.Canon.tr_end (fun b hb => hb3'.block _ (by rcases hb with rfl | rfl <;> omega)) (Go.Canon.tr_seg ?_)
      simp only [List.map_cons, List.map_nil, List.getD_cons_zero, List.getD_cons_succ]
      go_wp2_with fail
      refine Go.Canon.tr_to (Go.Canon.tr_fin (by rfl) (List.forall_mem_cons.2 ⟨.inl ⟨_, rfl, .inl rfl, by rw [World.cell?_drew, c0]; rfl⟩, List.forall_mem_cons.2 ⟨.inl ⟨_, rfl, .inr rfl, by rw [World.cell?_drew, e0]; rfl⟩, List.forall_mem_cons.2 ⟨.inl ⟨_, rfl, .inl rfl, by rw [World.cell?_drew, c0]; rfl⟩, List.forall_mem_cons.2 ⟨.inl ⟨_, rfl, .inr rfl, by rw [World.cell?_drew, e1]; rfl⟩, List.forall_mem_cons.2 ⟨.inl ⟨_, rfl, .inr rfl, by rw [World.cell?_drew, e0]; rfl⟩, fun _ h => by cases h⟩⟩⟩⟩⟩) ?_)
      go_wp2_with fail
      go_meet
      exact ⟨rfl, rfl, hb3'⟩
  case rest =>
    obtain ⟨rfl, rfl, hbc⟩ := hcut
    obtain ⟨w4, hw4⟩ : ∃ w4, w4 = wc := ⟨_, rfl⟩
    subst hw4
    have hC := Hh1.out.below hbc
    have hbc' := hb1.trans (hbc.mono (show w.heap.size ≤ w1.heap.size by omega))
    have hle := Hh.out.le
    have hzc := hbc.size
    have hbB : Below B w w4 := hbc'.mono (by omega)
    have e0c := (hbc.cell (p := ⟨w.heap.size, 0, none⟩) hz1).trans e0
    have e1c := (hbc.cell (p := ⟨w.heap.size, 1, none⟩) hz1).trans e1
    have hgc : g < w4.heap.size := by omega
    have d0 : w4.cell? ⟨g, 1, none⟩ = some (.map (some bc)) := hC.blk.cell 1
    have d2 : w4.cell? ⟨g, 2, none⟩ = some (.map (some be)) := hC.blk.cell 2
    have hok := Hhe.out
    have hne : oi (facing T (a, b)) < 0 ∨ a ≠ b := by
      by_cases h9 : oi (facing T (a, b)) < 0
      · exact .inl h9
      · obtain ⟨c9, hc9⟩ := oi_none h9
        obtain ⟨h8, h7⟩ := facing_some hc9
        right
        have := hs.loop3 h8
        rw [show vt T (nx c9) = a from congrArg Prod.fst h7, show vt T (pv c9) = b from congrArg Prod.snd h7] at this
        exact this
    have hadd : addC T L (a, b) = (if oi (facing T (a, b)) < 0 ∧ oi (facing T (b, a)) < 0 then 8 else if oi (facing T (a, b)) < 0 ∨ oi (facing T (b, a)) < 0 then 13 else if nm (a, b) ∈ L.map nm then 9 else 0) := rfl
    generalize oi (facing T (a, b)) = x at *
    generalize oi (facing T (b, a)) = y at *
    by_cases hx : x < 0
    · by_cases hy : y < 0
      · rw [if_pos ⟨hx, hy⟩] at hadd
        have HhC := Lib.hid hC; clear hC; have Hhadd := Lib.hid hadd; clear hadd; have Hhok := Lib.hid hok; clear hok
        go_wp2_with fail
        all_goals first | (exfalso; omega) | skip
        go_ret
        exact ⟨by rw [Hhadd.out]; rfl, addEnd_no hbB HhC.out (by rw [Hhadd.out]; decide)⟩
      · rw [if_neg (fun h => hy h.2), if_pos (.inl hx)] at hadd
        have HhC := Lib.hid hC; clear hC; have Hhadd := Lib.hid hadd; clear hadd; have Hhok := Lib.hid hok; clear hok
        go_wp2_with fail
        all_goals first | (exfalso; omega) | skip
        go_ret
        exact ⟨by rw [Hhadd.out]; rfl, addEnd_no hbB HhC.out (by rw [Hhadd.out]; decide)⟩
    by_cases hy : y < 0
    · rw [if_neg (fun h => hx h.1), if_pos (.inr hy)] at hadd
      have HhC := Lib.hid hC; clear hC; have Hhadd := Lib.hid hadd; clear hadd; have Hhok := Lib.hid hok; clear hok
      go_wp2_with fail
      all_goals first | (exfalso; omega) | skip
      go_ret
      exact ⟨by rw [Hhadd.out]; rfl, addEnd_no hbB HhC.out (by rw [Hhadd.out]; decide)⟩
    rw [if_neg (fun h => hx h.1), if_neg (fun h => h.elim hx hy)] at hadd
    have hab : a ≠ b := hne.resolve_left hx
    clear hne
    obtain ⟨S, hS1, hS2⟩ := hC.cuts
    obtain ⟨E, hE1, hE2⟩ := hC.ends
    have hnmd := fun wz => named_calls (a, b) wz
    have hnok : ok2 (nm (a, b)) := ⟨by unfold nm I64; have := hok.1; have := hok.2; unfold I64 at *; simp only []; omega, by unfold nm I64; have := hok.1; have := hok.2; unfold I64 at *; simp only []; omega⟩
    have hbl := hS1.lt
    have hel := hE1.lt
    obtain ⟨q, hq⟩ : ∃ q, nm (a, b) = q := ⟨_, rfl⟩
    obtain ⟨q1, q2⟩ := q
    rw [hq] at hnmd hnok hadd
    change ∀ wz, Calls _ _ #[.agg #[.int .i64 a, .int .i64 b]] wz (fun r w' => r = .returned (.agg #[.int .i64 q1, .int .i64 q2]) ∧ _) at hnmd
    have hmem : (Words.look S (q1, q2)).isSome = true ↔ (q1, q2) ∈ L.map nm := hS2 _
    have HhC := Lib.hid hC; clear hC; have Hhok := Lib.hid hok; clear hok; have HhS1 := Lib.hid hS1; clear hS1; have HhS2 := Lib.hid hS2; clear hS2; have HhE1 := Lib.hid hE1; clear hE1; have HhE2 := Lib.hid hE2; clear hE2; have Hhnmd := Lib.hid hnmd; clear hnmd; have Hhnok := Lib.hid hnok; clear hnok; have Hhq := Lib.hid hq; clear hq; have Hhmem := Lib.hid hmem; clear hmem; have Hhadd := Lib.hid hadd; clear hadd
    go_upto_region 6 with fail
    all_goals first | (exfalso; omega) | skip
    go_cut [37] (fun s37 wx => s37 = .bool (Words.look S (q1, q2)).isSome ∧ Below w4.heap.size w4 wx)
    case first =>
      refine Go.Canon.wp_region_tree [3, 4] (fun b => b = g ∨ b = w.heap.size) (.seg [0,4] (.alt 1 (.seg [2,3] (.alt 5 (.alt 6 (.seg [7] .fin) .no) .no)) (.alt 5 (.alt 1 (.seg [2,3] (.alt 6 (.seg [7] .fin) .no)) .no) .no))) mixed (by kernel_rfl) ?_
      refine Go.Canon.tr_seg ?_
      simp only [List.map_cons, List.map_nil, List.getD_cons_zero, List.getD_cons_succ]
      go_wp2_with fail
      refine Go.Canon.tr_to (Go.Canon.tr_alt ?_ (Go.Canon.tr_one ?_))
      · simp only [List.getD_cons_zero, List.getD_cons_succ]
        go_wp2_with fail
        refine Go.Canon.tr_end (fun _ _ => rfl) (Go.Canon.tr_seg ?_)
        simp only [List.map_cons, List.map_nil, List.getD_cons_zero, List.getD_cons_succ]
        go_wp2_with fail
        refine Go.Canon.tr_to (Go.Canon.tr_one ?_)
        simp only [List.getD_cons_zero, List.getD_cons_succ]
        go_wp2_with fail
        refine (Hhnmd.out w4.drew).mono ?_
        rintro e w3 ⟨rfl, hb3⟩
        have hb3' := (Below.refl w4.heap.size w4).drew.trans hb3
        go_wp2_with fail
        refine Go.Canon.tr_end (fun b hb => hb3'.block _ (by rcases hb with rfl | rfl <;> omega)) (Go.Canon.tr_one ?_)
        simp only [List.getD_cons_zero, List.getD_cons_succ]
        refine wpList_look _ rfl _ _ 103 rfl 39 4 keyE Tryz.underlying103 zero_bool bc S rfl (HhS1.out.below hb3' hbl) (q1, q2) rfl Hhnok.out ?_
        rw [look_yes]
        go_wp2_with fail
        refine Go.Canon.tr_end (fun b hb => hb3'.block _ (by rcases hb with rfl | rfl <;> omega)) (Go.Canon.tr_seg ?_)
        simp only [List.map_cons, List.map_nil, List.getD_cons_zero, List.getD_cons_succ]
        go_wp2_with fail
        refine Go.Canon.tr_to (Go.Canon.tr_fin (by rfl) (List.forall_mem_cons.2 ⟨.inl ⟨_, rfl, .inl rfl, by rw [World.cell?_drew, d0]; rfl⟩, List.forall_mem_cons.2 ⟨.inl ⟨_, rfl, .inr rfl, by rw [World.cell?_drew, e0c]; rfl⟩, fun _ h => by cases h⟩⟩) ?_)
        go_wp2_with fail
        go_meet
        exact ⟨rfl, hb3'⟩
      · simp only [List.getD_cons_zero, List.getD_cons_succ]
        go_wp2_with fail
        refine (Hhnmd.out w4.drew).mono ?_
        rintro e w3 ⟨rfl, hb3⟩
        have hb3' := (Below.refl w4.heap.size w4).drew.trans hb3
        go_wp2_with fail
        refine Go.Canon.tr_end (fun b hb => hb3'.block _ (by rcases hb with rfl | rfl <;> omega)) (Go.Canon.tr_one ?_)
        simp only [List.getD_cons_zero, List.getD_cons_succ]
        go_wp2_with fail
        refine Go.Canon.tr_end (fun b hb => hb3'.block _ (by rcases hb with rfl | rfl <;> omega)) (Go.Canon.tr_seg ?_)
        simp only [List.map_cons, List.map_nil, List.getD_cons_zero, List.getD_cons_succ]
        have d0' := (hb3'.cell (p := ⟨g, 1, none⟩) (by show g < _; omega)).trans d0
        go_wp2_with fail
        refine Go.Canon.tr_to (Go.Canon.tr_one ?_)
        simp only [List.getD_cons_zero, List.getD_cons_succ]
        refine wpList_look _ rfl _ _ 103 rfl 39 4 keyE Tryz.underlying103 zero_bool bc S rfl (HhS1.out.below hb3' hbl) (q1, q2) rfl Hhnok.out ?_
        rw [look_yes]
        go_wp2_with fail
        refine Go.Canon.tr_end (fun b hb => hb3'.block _ (by rcases hb with rfl | rfl <;> omega)) (Go.Canon.tr_seg ?_)
        simp only [List.map_cons, List.map_nil, List.getD_cons_zero, List.getD_cons_succ]
        go_wp2_with fail
        refine Go.Canon.tr_to (Go.Canon.tr_fin (by rfl) (List.forall_mem_cons.2 ⟨.inl ⟨_, rfl, .inl rfl, by rw [World.cell?_drew, d0]; rfl⟩, List.forall_mem_cons.2 ⟨.inl ⟨_, rfl, .inr rfl, by rw [World.cell?_drew, e0c]; rfl⟩, fun _ h => by cases h⟩⟩) ?_)
        go_wp2_with fail
        go_meet
        exact ⟨rfl, hb3'⟩
    case rest =>
      obtain ⟨rfl, hbd⟩ := hcut
      obtain ⟨w5, hw5⟩ : ∃ w5, w5 = wc := ⟨_, rfl⟩
      subst hw5
      have hz5 := hbd.size
      have hC5 := HhC.out.below hbd
      have hC5ne := hC5.ne
      have hbB5 := hbB.trans (hbd.mono (show B ≤ w4.heap.size by omega))
      have e0d := (hbd.cell (p := ⟨w.heap.size, 0, none⟩) (show w.heap.size < w4.heap.size by omega)).trans e0c
      have e1d := (hbd.cell (p := ⟨w.heap.size, 1, none⟩) (show w.heap.size < w4.heap.size by omega)).trans e1c
      have f1 : w5.cell? ⟨g, 1, none⟩ = some (.map (some bc)) := hC5.blk.cell 1
      have f2 : w5.cell? ⟨g, 2, none⟩ = some (.map (some be)) := hC5.blk.cell 2
      have hS5 := HhS1.out.below hbd hbl
      have hE5 := HhE1.out.below hbd hel
      have hmem := Hhmem.out
      have hadd := Hhadd.out
      clear e0c e1c d0 d2 e0 e1 c0
      cases hyes : (Words.look S (q1, q2)).isSome with
      | true =>
        rw [if_pos (hmem.1 hyes)] at hadd
        have HhC5 := Lib.hid hC5; clear hC5; have Hhadd := Lib.hid hadd; clear hadd; have Hhmem := Lib.hid hmem; clear hmem; have HhS5 := Lib.hid hS5; clear hS5; have HhE5 := Lib.hid hE5; clear hE5
        go_wp2_with fail
        go_ret
        exact ⟨by rw [Hhadd.out]; rfl, addEnd_no hbB5 HhC5.out (by rw [Hhadd.out]; decide)⟩
      | false =>
        rw [if_neg (fun h9 => by rw [hmem.2 h9] at hyes; cases hyes)] at hadd
        have hk5 := (Hhk1.out.below hbc hz1).below hbd (show w.heap.size < w4.heap.size by omega)
        have HhC5 := Lib.hid hC5; clear hC5; have Hhadd := Lib.hid hadd; clear hadd; have Hhmem := Lib.hid hmem; clear hmem; have HhS5 := Lib.hid hS5; clear hS5; have HhE5 := Lib.hid hE5; clear hE5; have Hhyes := Lib.hid hyes; clear hyes; have Hhk5 := Lib.hid hk5; clear hk5
        go_upto_region 8 with fail
        go_cut [] (fun wx => ∃ wy, Below w5.heap.size w5 wy ∧ wy.grownBy wx (some bc) ∧ Mp enc2 ok2 (fun _ : Unit => Value.bool true) wx bc (Words.put S (q1, q2) ()))
        case first =>
          refine Go.Canon.wp_region_tree [3, 4] (fun b => b = g ∨ b = w.heap.size) (.seg [0,4] (.alt 1 (.seg [2,3] (.alt 5 (.alt 6 .fin .no) .no)) (.alt 5 (.alt 1 (.seg [2,3] (.alt 6 .fin .no)) .no) .no))) mixed (by kernel_rfl) ?_
          refine Go.Canon.tr_seg ?_
          simp only [List.map_cons, List.map_nil, List.getD_cons_zero, List.getD_cons_succ]
          go_wp2_with fail
          refine Go.Canon.tr_to (Go.Canon.tr_alt ?_ (Go.Canon.tr_one ?_))
          · simp only [List.getD_cons_zero, List.getD_cons_succ]
            go_wp2_with fail
            refine Go.Canon.tr_end (fun _ _ => rfl) (Go.Canon.tr_seg ?_)
            simp only [List.map_cons, List.map_nil, List.getD_cons_zero, List.getD_cons_succ]
            go_wp2_with fail
            refine Go.Canon.tr_to (Go.Canon.tr_one ?_)
            simp only [List.getD_cons_zero, List.getD_cons_succ]
            go_wp2_with fail
            refine (Hhnmd.out w5.drew).mono ?_
            rintro e w3 ⟨rfl, hb3⟩
            have hb3' := (Below.refl w5.heap.size w5).drew.trans hb3
            go_wp2_with fail
            refine Go.Canon.tr_end (fun b hb => hb3'.block _ (by rcases hb with rfl | rfl <;> omega)) (Go.Canon.tr_one ?_)
            simp only [List.getD_cons_zero, List.getD_cons_succ]
            refine wpList_put _ rfl _ _ _ 103 rfl 39 4 keyE Tryz.underlying103 bc S rfl (HhS5.out.below hb3' (by omega)) (q1, q2) rfl Hhnok.out () rfl ?_
            intro w9 hmp9 hgr9 _
            have Hhmp9 := Lib.hid hmp9; clear hmp9
            go_wp2_with fail
            refine Go.Canon.tr_end (fun b hb => (hgr9.block b (by have := hb3'.size; rcases hb with rfl | rfl <;> omega) (by rintro h9; injection h9 with h9; rcases hb with rfl | rfl <;> omega)).trans (hb3'.block _ (by rcases hb with rfl | rfl <;> omega))) (Go.Canon.tr_fin (by rfl) (List.forall_mem_cons.2 ⟨.inl ⟨_, rfl, .inl rfl, by rw [World.cell?_drew, f1]; rfl⟩, List.forall_mem_cons.2 ⟨.inl ⟨_, rfl, .inr rfl, by rw [World.cell?_drew, e0d]; rfl⟩, fun _ h => by cases h⟩⟩) ?_)
            go_wp2_with fail
            go_meet
            exact ⟨w3, hb3', hgr9, Hhmp9.out⟩
          · simp only [List.getD_cons_zero, List.getD_cons_succ]
            go_wp2_with fail
            refine (Hhnmd.out w5.drew).mono ?_
            rintro e w3 ⟨rfl, hb3⟩
            have hb3' := (Below.refl w5.heap.size w5).drew.trans hb3
            go_wp2_with fail
            refine Go.Canon.tr_end (fun b hb => hb3'.block _ (by rcases hb with rfl | rfl <;> omega)) (Go.Canon.tr_one ?_)
            simp only [List.getD_cons_zero, List.getD_cons_succ]
            go_wp2_with fail
            refine Go.Canon.tr_end (fun b hb => hb3'.block _ (by rcases hb with rfl | rfl <;> omega)) (Go.Canon.tr_seg ?_)
            simp only [List.map_cons, List.map_nil, List.getD_cons_zero, List.getD_cons_succ]
            have f1' := (hb3'.cell (p := ⟨g, 1, none⟩) (by show g < _; omega)).trans f1
            go_wp2_with fail
            refine Go.Canon.tr_to (Go.Canon.tr_one ?_)
            simp only [List.getD_cons_zero, List.getD_cons_succ]
            refine wpList_put _ rfl _ _ _ 103 rfl 39 4 keyE Tryz.underlying103 bc S rfl (HhS5.out.below hb3' (by omega)) (q1, q2) rfl Hhnok.out () rfl ?_
            intro w9 hmp9 hgr9 _
            have Hhmp9 := Lib.hid hmp9; clear hmp9
            go_wp2_with fail
            refine Go.Canon.tr_end (fun b hb => (hgr9.block b (by have := hb3'.size; rcases hb with rfl | rfl <;> omega) (by rintro h9; injection h9 with h9; rcases hb with rfl | rfl <;> omega)).trans (hb3'.block _ (by rcases hb with rfl | rfl <;> omega))) (Go.Canon.tr_fin (by rfl) (List.forall_mem_cons.2 ⟨.inl ⟨_, rfl, .inl rfl, by rw [World.cell?_drew, f1]; rfl⟩, List.forall_mem_cons.2 ⟨.inl ⟨_, rfl, .inr rfl, by rw [World.cell?_drew, e0d]; rfl⟩, fun _ h => by cases h⟩⟩) ?_)
            go_wp2_with fail
            go_meet
            exact ⟨w3, hb3', hgr9, Hhmp9.out⟩
        case rest =>
          obtain ⟨wy, hby, hgr6, hS6⟩ := hcut
          obtain ⟨w6, hw6⟩ : ∃ w6, w6 = wc := ⟨_, rfl⟩
          subst hw6
          have hzy := hby.size
          have hz6 := hgr6.size
          have hSy := HhS5.out.below hby (by omega)
          have hEy := HhE5.out.below hby (by omega)
          have hCy := HhC5.out.below hby
          have hb6 : Below B w w6 := (hbB5.trans (hby.mono (by omega))).grown hgr6 (by omega) (fun q hq => by cases hq; omega)
          have blk6 := hCy.blk.kept_map hSy hgr6
          have tab6 := hCy.tab.below ((Below.refl B wy).grown hgr6 (by omega) (fun q hq => by cases hq; omega)) (Nat.le_refl _)
          have hE6 := hEy.kept_map hSy hC5ne.symm hgr6
          have sow6 := own_kept_map hCy.sow hSy hgr6
          have wow6 := own_kept_map hCy.wow hSy hgr6
          have hk6 := (Hhk5.out.below hby (by omega)).kept_map hSy hgr6
          have e0f : w6.cell? ⟨w.heap.size, 0, none⟩ = some (.int .i64 a) := hk6.cell 0
          have e1f : w6.cell? ⟨w.heap.size, 1, none⟩ = some (.int .i64 b) := hk6.cell 1
          have f2f : w6.cell? ⟨g, 2, none⟩ = some (.map (some be)) := blk6.cell 2
          have hE2 := HhE2.out
          have hka := hE2 a
          have hkb := hE2 b
          have hla := endsC_le L a
          have hlb := endsC_le L b
          have hput := ends_put (a := a) (b := b) hE2
          have hcut := cuts_put (e := (a, b)) HhS2.out
          rw [Hhq.out] at hcut
          have hkb2 : (Words.look (Words.put E a ((endsC L a : Nat) + 1)) b).getD 0 = (endsC L b : Nat) := by rw [look_put, if_neg hab]; exact hkb
          obtain ⟨ka, hka9⟩ : ∃ ka, endsC L a = ka := ⟨_, rfl⟩
          obtain ⟨kb, hkb9⟩ : ∃ kb, endsC L b = kb := ⟨_, rfl⟩
          rw [hka9] at hka hla hput hkb2
          rw [hkb9] at hkb hlb hput hkb2
          clear hka9 hkb9 e0d e1d f1 f2
          have hok := Hhok.out
          have HhSy := Lib.hid hSy; clear hSy; have HhEy := Lib.hid hEy; clear hEy; have HhCy := Lib.hid hCy; clear hCy; have Hblk6 := Lib.hid blk6; clear blk6; have Htab6 := Lib.hid tab6; clear tab6; have Hsow6 := Lib.hid sow6; clear sow6; have Hwow6 := Lib.hid wow6; clear wow6; have Hhk6 := Lib.hid hk6; clear hk6; have Hhput := Lib.hid hput; clear hput; have Hhcut := Lib.hid hcut; clear hcut; have HhE2 := Lib.hid hE2; clear hE2; have Hhkb := Lib.hid hkb; clear hkb; have HhS6 := Lib.hid hS6; clear hS6; have Hhok := Lib.hid hok; clear hok
          go_wp2_with fail
          refine Go.Canon.wp_region_tree [5] (fun b => b = g ∨ b = w.heap.size) (.seg [0,4,5] (.alt 1 (.seg [2,3] (.alt 6 (.seg [7] (.alt 8 .fin .no)) .no)) .no)) mixed (by kernel_rfl) ?_
          refine Go.Canon.tr_seg ?_
          simp only [List.map_cons, List.map_nil, List.getD_cons_zero, List.getD_cons_succ]
          go_wp2_with fail
          refine Go.Canon.tr_to (Go.Canon.tr_one ?_)
          simp only [List.getD_cons_zero, List.getD_cons_succ]
          go_wp2_with fail
          refine Go.Canon.tr_end (fun _ _ => rfl) (Go.Canon.tr_seg ?_)
          simp only [List.map_cons, List.map_nil, List.getD_cons_zero, List.getD_cons_succ]
          go_wp2_with fail
          refine Go.Canon.tr_to (Go.Canon.tr_one ?_)
          simp only [List.getD_cons_zero, List.getD_cons_succ]
          refine wpList_look _ rfl _ _ 104 rfl 3 3 keyI Tryz.underlying104 zero_int be E rfl hE6.drew a rfl Hhok.out.1 ?_
          rw [look_num hka]
          go_wp2_with fail
          refine Go.Canon.tr_end (fun _ _ => rfl) (Go.Canon.tr_seg ?_)
          simp only [List.map_cons, List.map_nil, List.getD_cons_zero, List.getD_cons_succ]
          go_wp2_with fail
          refine Go.Canon.tr_to (Go.Canon.tr_one ?_)
          simp only [List.getD_cons_zero, List.getD_cons_succ]
          refine wpList_put _ rfl _ _ _ 104 rfl 3 3 keyI Tryz.underlying104 be E rfl hE6.drew a rfl Hhok.out.1 ((ka : Int) + 1) rfl ?_
          intro w7 hE7 hgr7 _
          have HhE7 := Lib.hid hE7; clear hE7
          go_wp2_with fail
          refine Go.Canon.tr_end (fun b hb => (hgr7.block b (by rcases hb with rfl | rfl <;> (simp only [World.size_drew]; omega)) (by rintro h9; injection h9 with h9; rcases hb with rfl | rfl <;> omega))) (Go.Canon.tr_fin (by rfl) (List.forall_mem_cons.2 ⟨.inl ⟨_, rfl, .inr rfl, by rw [World.cell?_drew, e0f]; rfl⟩, fun _ h => by cases h⟩) ?_)
          have hz7 := hgr7.size
          simp only [World.size_drew] at hz7
          have hE6h := hE6.drew
          have hb7 : Below B w w7 := hb6.drew.grown hgr7 (by simp only [World.size_drew]; omega) (fun q hq => by cases hq; omega)
          have blk7 := Hblk6.out.drew.kept_map hE6h hgr7
          have tab7 := Htab6.out.below (((Below.refl B w6).drew).grown hgr7 (by simp only [World.size_drew]; omega) (fun q hq => by cases hq; omega)) (Nat.le_refl _)
          have hS7 := HhS6.out.drew.kept_map hE6h hC5ne hgr7
          have sow7 := own_kept_map (own_drew Hsow6.out) hE6h hgr7
          have wow7 := own_kept_map (own_drew Hwow6.out) hE6h hgr7
          have hk7 := Hhk6.out.drew.kept_map hE6h hgr7
          have e1g : w7.cell? ⟨w.heap.size, 1, none⟩ = some (.int .i64 b) := hk7.cell 1
          have f2g : w7.cell? ⟨g, 2, none⟩ = some (.map (some be)) := blk7.cell 2
          clear e0f e1f f2f
          have Hblk7 := Lib.hid blk7; clear blk7; have Htab7 := Lib.hid tab7; clear tab7; have HhS7 := Lib.hid hS7; clear hS7; have Hsow7 := Lib.hid sow7; clear sow7; have Hwow7 := Lib.hid wow7; clear wow7; have Hhk7 := Lib.hid hk7; clear hk7
          go_wp2_with fail
          refine Go.Canon.wp_region_tree [5] (fun b => b = g ∨ b = w.heap.size) (.seg [0,4,5] (.alt 1 (.seg [2,3] (.alt 6 (.seg [7] (.alt 8 .fin .no)) .no)) .no)) mixed (by kernel_rfl) ?_
          refine Go.Canon.tr_seg ?_
          simp only [List.map_cons, List.map_nil, List.getD_cons_zero, List.getD_cons_succ]
          go_wp2_with fail
          refine Go.Canon.tr_to (Go.Canon.tr_one ?_)
          simp only [List.getD_cons_zero, List.getD_cons_succ]
          go_wp2_with fail
          refine Go.Canon.tr_end (fun _ _ => rfl) (Go.Canon.tr_seg ?_)
          simp only [List.map_cons, List.map_nil, List.getD_cons_zero, List.getD_cons_succ]
          go_wp2_with fail
          refine Go.Canon.tr_to (Go.Canon.tr_one ?_)
          simp only [List.getD_cons_zero, List.getD_cons_succ]
          refine wpList_look _ rfl _ _ 104 rfl 3 3 keyI Tryz.underlying104 zero_int be (Words.put E a ((ka : Int) + 1)) rfl HhE7.out.drew b rfl Hhok.out.2 ?_
          rw [look_num hkb2]
          go_wp2_with fail
          refine Go.Canon.tr_end (fun _ _ => rfl) (Go.Canon.tr_seg ?_)
          simp only [List.map_cons, List.map_nil, List.getD_cons_zero, List.getD_cons_succ]
          go_wp2_with fail
          refine Go.Canon.tr_to (Go.Canon.tr_one ?_)
          simp only [List.getD_cons_zero, List.getD_cons_succ]
          refine wpList_put _ rfl _ _ _ 104 rfl 3 3 keyI Tryz.underlying104 be (Words.put E a ((ka : Int) + 1)) rfl HhE7.out.drew b rfl Hhok.out.2 ((kb : Int) + 1) rfl ?_
          intro w8 hE8 hgr8 _
          have HhE8 := Lib.hid hE8; clear hE8
          go_wp2_with fail
          refine Go.Canon.tr_end (fun b hb => (hgr8.block b (by rcases hb with rfl | rfl <;> (simp only [World.size_drew]; omega)) (by rintro h9; injection h9 with h9; rcases hb with rfl | rfl <;> omega))) (Go.Canon.tr_fin (by rfl) (List.forall_mem_cons.2 ⟨.inl ⟨_, rfl, .inr rfl, by rw [World.cell?_drew, e1g]; rfl⟩, fun _ h => by cases h⟩) ?_)
          have hE7h := HhE7.out.drew
          have hb8 : Below B w w8 := hb7.drew.grown hgr8 (by simp only [World.size_drew]; omega) (fun q hq => by cases hq; omega)
          have hC8 : Ctr w8 B g bc be (.pointer tg) N T (L ++ [(a, b)]) n sv wv X O := {
            blk := Hblk7.out.drew.kept_map hE7h hgr8
            tab := Htab7.out.below (((Below.refl B w7).drew).grown hgr8 (by simp only [World.size_drew]; omega) (fun q hq => by cases hq; omega)) (Nat.le_refl _)
            cuts := ⟨_, HhS7.out.drew.kept_map hE7h hC5ne hgr8, Hhcut.out⟩
            ends := ⟨_, HhE8.out, Hhput.out⟩
            sow := own_kept_map (own_drew Hsow7.out) hE7h hgr8
            wow := own_kept_map (own_drew Hwow7.out) hE7h hgr8
            le := hle
            ne := hC5ne }
          clear e1g f2g
          have HhC8 := Lib.hid hC8; clear hC8
          go_wp2_with fail
          go_ret
          exact ⟨by rw [Hhadd.out]; rfl, hb8, by rw [if_pos Hhadd.out]; exact HhC8.out⟩
end Go.Proofs.YtpbdcppaiafbgaaGreat

namespace Go.Proofs.YtpbdcppaiafbgaaGreat
open Go Go.RowKit Go.Words Go.Mesh

theorem pairE0 (x y : Value) (w : World) : (Instr.index 39 (.agg #[x, y]) (.int .i64 0)).run Tryz.prog w = .ok x w := by kernel_rfl
theorem pairE1 (x y : Value) (w : World) : (Instr.index 39 (.agg #[x, y]) (.int .i64 1)).run Tryz.prog w = .ok y w := by kernel_rfl
set_option maxRecDepth 20000 in
set_option maxHeartbeats 4000000 in
theorem idle_calls {w : World} {B g bc be : Nat} {tv sv wv : Value} {N n : Int} {T X : List T3} {L : List (Int × Int)} {O : List Int} (h : Ctr w B g bc be tv N T L n sv wv X O) (hs : Surf N T) (e : Int × Int) (he : ok2 e) :
    Calls Tryz.prog 65 #[.pointer (some ⟨g, 0, none⟩), enc2 e] w fun r w' => r = .returned (.bool (idleE N T L e)) ∧ Below w.heap.size w w' := by
  obtain ⟨a, b⟩ := e
  have hb1 := (Below.refl w.heap.size w).alloc (Nat.le_refl _) (.cells #[.int .i64 a, .int .i64 b] 39)
  have hk1 := Bk.new w 39 [.int .i64 a, .int .i64 b]
  have h1 := h.below hb1
  have hlt := h.blk.lt
  have hz1 : w.heap.size < (w.alloc (.cells #[.int .i64 a, .int .i64 b] 39)).heap.size := by simp
  have ha := inner_calls (.inl h1.tab) hs a
  have hbi := fun wz (hz : Below (w.alloc (.cells #[.int .i64 a, .int .i64 b] 39)).heap.size (w.alloc (.cells #[.int .i64 a, .int .i64 b] 39)) wz) => inner_calls (.inl (h1.below hz).tab) hs b
  obtain ⟨tg, htg⟩ : ∃ tg, tv = .pointer tg := by
    obtain ⟨g9, _, _, _, _, _, h9, _⟩ := h.tab
    exact ⟨_, h9⟩
  subst htg
  change Calls Tryz.prog 65 #[.pointer (some ⟨g, 0, none⟩), .agg #[.int .i64 a, .int .i64 b]] w fun r w' => r = .returned (.bool (decide (endsC L a ≤ 1) && innerAt T N a && (decide (endsC L b ≤ 1) && innerAt T N b))) ∧ _
  obtain ⟨E, hE1, hE2⟩ := h1.ends
  have hka := hE2 a
  have hkb := hE2 b
  have hla := endsC_le L a
  have hlb := endsC_le L b
  have c0 := h1.blk.cell 0
  have c2 := h1.blk.cell 2
  simp only [List.getElem?_cons_zero, List.getElem?_cons_succ] at c0 c2
  have e0 := hk1.cell 0
  have e1 := hk1.cell 1
  simp only [List.getElem?_cons_zero, List.getElem?_cons_succ] at e0 e1
  obtain ⟨w1, hw1⟩ : ∃ w1, w1 = w.alloc (.cells #[.int .i64 a, .int .i64 b] 39) := ⟨_, rfl⟩
  rw [← hw1] at hb1 hk1 h1 hz1 ha hbi hE1 c0 c2 e0 e1
  generalize endsC L a = ka at *
  generalize endsC L b = kb at *
  generalize innerAt T N a = ia at *
  generalize innerAt T N b = ib at *
  have hm1 := hE1.lt
  have ix0 := pairE0
  have ix1 := pairE1
  obtain ⟨res, hres⟩ : ∃ res, (decide (ka ≤ 1) && ia && (decide (kb ≤ 1) && ib)) = res := ⟨_, rfl⟩
  rw [hres]
  have look1 := fun (wz : World) (hz : Below w1.heap.size w1 wz) => hE1.below hz hm1
  have Hh := Lib.hid h; clear h; have Hh1 := Lib.hid h1; clear h1; have Hhk1 := Lib.hid hk1; clear hk1; have Hha := Lib.hid ha; clear ha; have Hhbi := Lib.hid hbi; clear hbi; have Hhe := Lib.hid he; clear he; have HhE2 := Lib.hid hE2; clear hE2; have Hhres := Lib.hid hres; clear hres; have Hlook1 := Lib.hid look1; clear look1
  go_enter Tryz.func65, Tryz.ntmps65
  go_wp2_with fail
  rw [← hw1]
  clear hw1
  refine wp_loop_rounds 3 ?_
  rw [rounds_succ]
  by_cases h9 : ka ≤ 1
  case neg =>
    have h8 : (1 : Int) < (ka : Int) := by omega
    go_wp2_with (at_lookup; refine wpList_look _ rfl _ _ 104 rfl 3 3 keyI Tryz.underlying104 zero_int be E rfl hE1 a rfl Hhe.out.1 ?_; rw [look_num hka])
    all_goals first | (exfalso; omega) | skip
    go_ret
    exact ⟨ret_bool (by rw [← Hhres.out, decide_eq_false h9]; rfl), hb1⟩
  have h8 : ¬ ((1 : Int) < (ka : Int)) := by omega
  go_wp2_with (at_lookup; refine wpList_look _ rfl _ _ 104 rfl 3 3 keyI Tryz.underlying104 zero_int be E rfl hE1 a rfl Hhe.out.1 ?_; rw [look_num hka])
  all_goals first | (exfalso; omega) | skip
  refine Hha.out.mono ?_
  rintro r w2 ⟨rfl, hb2⟩
  have hz2 := hb2.size
  have hb2' := hb1.trans (hb2.mono (show w.heap.size ≤ w1.heap.size by omega))
  cases ia with
  | false =>
    go_wp2_with fail
    go_ret
    exact ⟨ret_bool (by rw [← Hhres.out]; simp), hb2'⟩
  | true =>
    have c0' := (hb2.cell (p := ⟨g, 0, none⟩) (show g < w1.heap.size by omega)).trans c0
    have c2' := (hb2.cell (p := ⟨g, 2, none⟩) (show g < w1.heap.size by omega)).trans c2
    have hE2' := Hlook1.out w2 hb2
    have hbi2 := Hhbi.out w2 hb2
    have HhE2' := Lib.hid hE2'; clear hE2'; have Hhbi2 := Lib.hid hbi2; clear hbi2
    go_wp2_with fail
    rw [rounds_succ]
    by_cases g9 : kb ≤ 1
    case neg =>
      have g8 : (1 : Int) < (kb : Int) := by omega
      go_wp2_with (at_lookup; refine wpList_look _ rfl _ _ 104 rfl 3 3 keyI Tryz.underlying104 zero_int be E rfl HhE2'.out b rfl Hhe.out.2 ?_; rw [look_num hkb])
      all_goals first | (exfalso; omega) | skip
      go_ret
      exact ⟨ret_bool (by rw [← Hhres.out, decide_eq_false g9]; simp), hb2'⟩
    have g8 : ¬ ((1 : Int) < (kb : Int)) := by omega
    go_wp2_with (at_lookup; refine wpList_look _ rfl _ _ 104 rfl 3 3 keyI Tryz.underlying104 zero_int be E rfl HhE2'.out b rfl Hhe.out.2 ?_; rw [look_num hkb])
    all_goals first | (exfalso; omega) | skip
    refine Hhbi2.out.mono ?_
    rintro r w3 ⟨rfl, hb3⟩
    have hb3' := hb2'.trans (hb3.mono (show w.heap.size ≤ w2.heap.size by omega))
    cases ib with
    | false =>
      go_wp2_with fail
      go_ret
      exact ⟨ret_bool (by rw [← Hhres.out]; simp), hb3'⟩
    | true =>
      go_wp2_with fail
      rw [rounds_succ]
      go_wp2_with fail
      go_ret
      exact ⟨ret_bool (by rw [← Hhres.out, decide_eq_true h9, decide_eq_true g9]; rfl), hb3'⟩
set_option maxRecDepth 20000 in
set_option maxHeartbeats 2000000 in
theorem index_idle {w : World} {B g bc be : Nat} {tv sv wv lv : Value} {N n : Int} {T X : List T3} {L M : List (Int × Int)} {O : List Int} (h : Ctr w B g bc be tv N T L n sv wv X O) (hs : Surf N T) {B0 : Nat} (hM : Sl 2 RPair w B0 lv M) (hB0 : B0 ≤ w.heap.size) (hok : ∀ e ∈ M, ok2 e) (hl : M.length ≤ 100000) :
    Calls Tryz.prog 106 #[lv, .func (.func 65) #[.pointer (some ⟨g, 0, none⟩)] #[]] w fun r w' => (∃ k : Int, r = .returned (.int .i64 k) ∧ (0 ≤ k ↔ M.any (idleE N T L) = true) ∧ -1 ≤ k ∧ k ≤ 100000) ∧ Below w.heap.size w w' := by
  obtain ⟨A, cap, rfl, hcap⟩ := hM.form
  have hid := fun (wz : World) (hz : Below w.heap.size w wz) (a b : Int) (he : ok2 (a, b)) => idle_calls (h.below hz) hs (a, b) he
  have hr := Below.refl w.heap.size w
  change ∀ wz, Below w.heap.size w wz → ∀ a b, ok2 (a, b) → Calls _ _ #[.pointer (some ⟨g, 0, none⟩), .agg #[.int .i64 a, .int .i64 b]] wz _ at hid
  have Hh := Lib.hid h; clear h; have HhM := Lib.hid hM; clear hM; have Hhid := Lib.hid hid; clear hid; have Hhok := Lib.hid hok; clear hok
  go_enter Tryz.func106, Tryz.ntmps106
  go_wp2_with fail
  go_loopw [8] (fun iv wr => ∃ k : Nat, k ≤ M.length ∧ iv = .int .i64 (k : Int) ∧ (∀ i (hi : i < M.length), i < k → idleE N T L M[i] = false) ∧ Below w.heap.size w wr) (fun iv _ => M.length - (intOf iv).toNat)
  case atStart => exact ⟨0, by omega, rfl, fun i _ hi => by omega, hr⟩
  case round =>
    obtain ⟨k, hk, rfl, hpre, hbel⟩ := hrel
    obtain ⟨w1, hw1⟩ : ∃ w1, w1 = wr := ⟨_, rfl⟩
    subst hw1
    by_cases hkl : k < M.length
    · obtain ⟨b, o, rfl, hb, d0, d1⟩ := (HhM.out.below keeps_pair (hbel.mono hB0)).pair_at hkl
      have he := Hhok.out _ (List.getElem_mem hkl)
      have hany : idleE N T L M[k] = true → M.any (idleE N T L) = true := fun h9 => List.any_eq_true.2 ⟨_, List.getElem_mem hkl, h9⟩
      have hnext : idleE N T L M[k] = false → ∀ i (hi : i < M.length), i < k + 1 → idleE N T L M[i] = false := fun h9 i hi h8 => by
        by_cases h7 : i = k
        · subst h7; exact h9
        · exact hpre i hi (by omega)
      generalize M[k] = e at *
      obtain ⟨x, y⟩ := e
      have hi9 := Hhid.out w1 hbel x y he
      generalize idleE N T L (x, y) = r9 at *
      have hkk : (k : Int) < (M.length : Int) := by omega
      have Hhpre := Lib.hid hpre; clear hpre; have Hhany := Lib.hid hany; clear hany; have Hhnext := Lib.hid hnext; clear hnext; have Hhi9 := Lib.hid hi9; clear hi9; have Hhe := Lib.hid he; clear he
      go_wp2_with fail
      refine Hhi9.out.mono ?_
      rintro e w2 ⟨rfl, hb2⟩
      have hbel2 := hbel.trans (hb2.mono hbel.size)
      cases r9 with
      | true =>
        go_wp2_with fail
        go_ret
        exact ⟨⟨(k : Int), rfl, ⟨fun _ => Hhany.out (by first | trivial | rfl), fun _ => by omega⟩, by omega, by omega⟩, hbel2⟩
      | false =>
        have hn := Hhnext.out rfl
        have Hhn := Lib.hid hn; clear hn
        go_wp2_with fail
        exact ⟨⟨k + 1, by omega, by simp, Hhn.out, hbel2⟩, by simp [intOf]; omega⟩
    · obtain rfl : k = M.length := by omega
      have hno : M.any (idleE N T L) = false := by
        rw [List.any_eq_false]
        intro x hx
        obtain ⟨i, hi, rfl⟩ := List.getElem_of_mem hx
        rw [hpre i hi hi]; decide
      have Hhpre := Lib.hid hpre; clear hpre; have Hhno := Lib.hid hno; clear hno
      go_wp2_with fail
      go_ret
      exact ⟨⟨-1, rfl, ⟨fun h9 => by omega, fun h9 => by rw [Hhno.out] at h9; cases h9⟩, by omega, by omega⟩, hbel⟩
theorem contains_idle {w : World} {B g bc be : Nat} {tv sv wv lv : Value} {N n : Int} {T X : List T3} {L M : List (Int × Int)} {O : List Int} (h : Ctr w B g bc be tv N T L n sv wv X O) (hs : Surf N T) {B0 : Nat} (hM : Sl 2 RPair w B0 lv M) (hB0 : B0 ≤ w.heap.size) (hok : ∀ e ∈ M, ok2 e) (hl : M.length ≤ 100000) :
    Calls Tryz.prog 64 #[lv, .func (.func 65) #[.pointer (some ⟨g, 0, none⟩)] #[]] w fun r w' => r = .returned (.bool (M.any (idleE N T L))) ∧ Below w.heap.size w w' := by
  have hi := index_idle h hs hM hB0 hok hl
  obtain ⟨A, cap, rfl, hcap⟩ := hM.form
  obtain ⟨res, hres⟩ : ∃ res, M.any (idleE N T L) = res := ⟨_, rfl⟩
  rw [hres] at hi ⊢
  have Hh := Lib.hid h; clear h; have HhM := Lib.hid hM; clear hM; have Hhi := Lib.hid hi; clear hi; have Hhok := Lib.hid hok; clear hok
  go_enter Tryz.func64, Tryz.ntmps64
  go_wp2_with fail
  refine Hhi.out.mono ?_
  rintro e w2 ⟨⟨k, rfl, hk, hk1, hk2⟩, hb2⟩
  by_cases h0 : 0 ≤ k
  · have hr := hk.1 h0
    have Hhk := Lib.hid hk; clear hk
    go_wp2_with fail
    all_goals first | (exfalso; omega) | skip
    go_ret
    exact ⟨ret_bool (by subst hr; first | rfl | (simp only [decide_eq_true_eq]; omega)), hb2⟩
  · have hr : res = false := by cases res with
      | false => rfl
      | true => exact absurd (hk.2 rfl) h0
    have Hhk := Lib.hid hk; clear hk
    go_wp2_with fail
    all_goals first | (exfalso; omega) | skip
    go_ret
    exact ⟨ret_bool (by subst hr; first | rfl | (simp only [decide_eq_false_iff_not]; omega)), hb2⟩
set_option maxRecDepth 20000 in
set_option maxHeartbeats 2000000 in
theorem now_calls {w : World} {B g bc be : Nat} {tv sv wv : Value} {N n : Int} {T X : List T3} {L : List (Int × Int)} {O : List Int} (h : Ctr w B g bc be tv N T L n sv wv X O) {c : Nat} (hc : c < 3 * X.length) (hl : X.length ≤ 8192) :
    Calls Tryz.prog 68 #[.pointer (some ⟨g, 0, none⟩), .int .i64 (c : Int)] w fun r w' => r = .returned (enc2 (eg X c)) ∧ Below w.heap.size w w' := by
  have hsl : Sl 3 RTri w w.heap.size sv X := Sl.of_own h.sow fun i a hi => flat3_at X i a hi
  obtain ⟨A, cap, rfl, hcap⟩ := own_form h.sow
  obtain ⟨b, o, rfl, hb, hcell⟩ := tri_cells hsl (i := c / 3) (by omega)
  have k0 := hcell 0 (by omega)
  have k1 := hcell 1 (by omega)
  have k2 := hcell 2 (by omega)
  simp only [Nat.add_zero] at k0
  have hlt := h.blk.lt
  have c4 := h.blk.cell 4
  simp only [List.getElem?_cons_zero, List.getElem?_cons_succ] at c4
  have hbA := (Below.refl w.heap.size w).alloc (Nat.le_refl _) (.cells #[.int .i64 0, .int .i64 0] 39)
  have hd : (c : Int) / 3 = ((c / 3 : Nat) : Int) := by omega
  have hv : ∀ k, k < 3 → Mesh.vt X (3 * (c / 3) + k) = ([Mesh.vt X (3 * (c / 3)), Mesh.vt X (3 * (c / 3) + 1), Mesh.vt X (3 * (c / 3) + 2)].getD k 0) := fun k hk => by
    have : k = 0 ∨ k = 1 ∨ k = 2 := by omega
    rcases this with rfl | rfl | rfl <;> rfl
  obtain ⟨p, hp, hp3⟩ : ∃ p : Nat, ((c : Int) + 1) % 3 = p ∧ p < 3 := ⟨(c + 1) % 3, by omega, by omega⟩
  obtain ⟨q, hq, hq3⟩ : ∃ q : Nat, ((c : Int) + 2) % 3 = q ∧ q < 3 := ⟨(c + 2) % 3, by omega, by omega⟩
  have hnx : vt X (nx c) = Mesh.vt X (3 * (c / 3) + p) := by congr 1; unfold nx; omega
  have hpv : vt X (pv c) = Mesh.vt X (3 * (c / 3) + q) := by congr 1; unfold pv; omega
  change Calls Tryz.prog 68 #[.pointer (some ⟨g, 0, none⟩), .int .i64 (c : Int)] w fun r w' => r = .returned (.agg #[.int .i64 (vt X (nx c)), .int .i64 (vt X (pv c))]) ∧ Below w.heap.size w w'
  rw [hnx, hpv]
  have hvp := hv p hp3
  have hvq := hv q hq3
  have hc3 : c / 3 < X.length := by omega
  have hcl : (c : Int) ≤ 30000 := by omega
  generalize hx0 : Mesh.vt X (3 * (c / 3)) = x0 at *
  generalize hx1 : Mesh.vt X (3 * (c / 3) + 1) = x1 at *
  generalize hx2 : Mesh.vt X (3 * (c / 3) + 2) = x2 at *
  rw [hvp, hvq]
  obtain ⟨y1, hy1⟩ : ∃ y, [x0, x1, x2].getD p 0 = y := ⟨_, rfl⟩
  obtain ⟨y2, hy2⟩ : ∃ y, [x0, x1, x2].getD q 0 = y := ⟨_, rfl⟩
  rw [hy1, hy2]
  generalize hcd : c / 3 = d at *
  clear hcell hnx hpv hvp hvq hv hx0 hx1 hx2 hcd
  have Hh := Lib.hid h; clear h; have Hhsl := Lib.hid hsl; clear hsl; have Hhy1 := Lib.hid hy1; clear hy1; have Hhy2 := Lib.hid hy2; clear hy2
  go_enter Tryz.func68, Tryz.ntmps68
  go_wp2_with fail
  have hk2 := Bk.new' (n := w.heap.size + 1) (w := w.alloc (.cells #[.int .i64 0, .int .i64 0] 39)) 57 [.int .i64 x0, .int .i64 x1, .int .i64 x2] (by simp)
  have hkE := (Bk.new w 39 [.int .i64 0, .int .i64 0]).alloc (.cells #[.int .i64 x0, .int .i64 x1, .int .i64 x2] 57)
  have hbZ := hbA.alloc (by simp) (.cells #[.int .i64 x0, .int .i64 x1, .int .i64 x2] 57)
  obtain ⟨wz, hwz⟩ : ∃ wz, wz = (w.alloc (.cells #[.int .i64 0, .int .i64 0] 39)).alloc (.cells #[.int .i64 x0, .int .i64 x1, .int .i64 x2] 57) := ⟨_, rfl⟩
  rw [← hwz] at hk2 hkE hbZ ⊢
  have lp : wz.cell? ⟨w.heap.size + 1, p, none⟩ = some (.int .i64 ([x0, x1, x2].getD p 0)) := by
    rw [hk2.cell]
    have : p = 0 ∨ p = 1 ∨ p = 2 := by omega
    rcases this with rfl | rfl | rfl <;> rfl
  have lq : wz.cell? ⟨w.heap.size + 1, q, none⟩ = some (.int .i64 ([x0, x1, x2].getD q 0)) := by
    rw [hk2.cell]
    have : q = 0 ∨ q = 1 ∨ q = 2 := by omega
    rcases this with rfl | rfl | rfl <;> rfl
  rw [Hhy1.out] at lp
  rw [Hhy2.out] at lq
  clear hwz k0 k1 k2 c4
  have hkF := (hkE.set 0 (.int .i64 y1)).set 1 (.int .i64 y2)
  have z0 : wz.cell? ⟨w.heap.size, 0, none⟩ = some (.int .i64 0) := hkE.cell 0
  have z1 : wz.cell? ⟨w.heap.size, 1, none⟩ = some (.int .i64 0) := hkE.cell 1
  have zf := hkE.frozen
  have Hhk2 := Lib.hid hk2; clear hk2; have HhkE := Lib.hid hkE; clear hkE; have HhkF := Lib.hid hkF; clear hkF
  go_wp2_with (first | (refine Go.Canon.wp_region_text mixed (by kernel_rfl) ?_) | (refine Go.Canon.chk (by rfl) ?_))
  exact ret_cell rfl rfl HhkF.out.drew Tryz.underlying39 rfl (by kernel_rfl) rfl ⟨rfl, ((hbZ.setCell (p := ⟨w.heap.size, 0, none⟩) (Nat.le_refl _) _).setCell (p := ⟨w.heap.size, 1, none⟩) (Nat.le_refl _) _).drew⟩
end Go.Proofs.YtpbdcppaiafbgaaGreat

namespace Go.Mesh
theorem foldl_min_cast : ∀ (l : List Nat) (a : Nat), (l.map fun n : Nat => (n : Int)).foldl min (a : Int) = (l.foldl min a : Nat)
  | [], _ => rfl
  | b :: l, a => by
    rw [List.map_cons, List.foldl_cons, List.foldl_cons, show min (a : Int) (b : Int) = ((min a b : Nat) : Int) by omega]
    exact foldl_min_cast l (min a b)
theorem minOf_cast (l : List Nat) : Go.Lib.minOf (l.map fun n : Nat => (n : Int)) = (minL l : Nat) := by
  unfold Go.Lib.minOf minL
  cases l with
  | nil => rfl
  | cons a l => exact foldl_min_cast (a :: l) a
end Go.Mesh
namespace Go.Proofs.YtpbdcppaiafbgaaGreat
open Go Go.RowKit Go.Words Go.Mesh Go.Shelf Go.Sort

structure RowAt (w : World) (g lo : Nat) (x : Value × List Nat) : Prop where
  ne : x.2 ≠ []
  few : x.2.length ≤ 100000
  small : ∀ c ∈ x.2, c ≤ 100000
  at_ : ∃ b off cap, x.1 = .slice (some ⟨b, off, none⟩) x.2.length cap ∧ b ≠ g ∧ b < w.heap.size ∧ lo ≤ b ∧ x.2.length ≤ cap ∧ ∀ i (h : i < x.2.length), w.cell? ⟨b, off + i, none⟩ = some (.int .i64 (x.2[i] : Int))
abbrev RowS (w : World) (g lo : Nat) := { x : Value × List Nat // RowAt w g lo x }
def encR {w : World} {g lo : Nat} (x : RowS w g lo) : Value := x.1.1
def cmpR {w : World} {g lo : Nat} (x y : RowS w g lo) : Int := (minL x.1.2 : Int) - minL y.1.2
theorem minrow_calls {w : World} {g lo : Nat} (x : RowS w g lo) (W : World) (hW : ∀ a : Addr, a.block ≠ g → a.block < w.heap.size → W.cell? a = w.cell? a) :
    Calls Tryz.prog 139 #[x.1.1] W fun e w' => e = .returned (.int .i64 (minL x.1.2 : Nat)) ∧ w' = W := by
  obtain ⟨⟨v, row⟩, hx⟩ := x
  obtain ⟨b, off, cap, h1, h2, h3, _, _, h4⟩ := hx.at_
  simp only [] at h1 h4
  subst h1
  have hne : 0 < row.length := List.length_pos_iff.2 hx.ne
  have hfew := hx.few
  simp only [] at hfew
  have := Any.slices_Min_int Tryz.minInts b off row.length cap (row.map fun n : Nat => (n : Int)) W hne (by rw [List.length_map]; exact Nat.le_refl _) (by omega) fun j hj => by
    rw [List.length_map] at hj
    rw [hW ⟨b, off + j, none⟩ h2 h3, h4 j hj, List.getD_eq_getElem?_getD, List.getElem?_map, List.getElem?_eq_getElem hj]
    rfl
  rw [List.take_of_length_le (by rw [List.length_map]; exact Nat.le_refl _), minOf_cast] at this
  exact this
theorem cmprow_calls {w : World} {g lo : Nat} (x y : RowS w g lo) (W : World) (hW : ∀ a : Addr, a.block ≠ g → a.block < w.heap.size → W.cell? a = w.cell? a) :
    Calls Tryz.prog 138 #[x.1.1, y.1.1] W fun e w' => e = .returned (.int .i64 (cmpR x y)) ∧ w' = W := by
  have h1 := minrow_calls x W hW
  have h2 := minrow_calls y W hW
  have s1 := x.2.small _ (minL_mem x.2.ne)
  have s2 := y.2.small _ (minL_mem y.2.ne)
  change Calls Tryz.prog 138 #[x.1.1, y.1.1] W fun e w' => e = .returned (.int .i64 ((minL x.1.2 : Int) - minL y.1.2)) ∧ w' = W
  obtain ⟨b1, o1, c1, e1, -⟩ := x.2.at_
  obtain ⟨b2, o2, c2, e2, -⟩ := y.2.at_
  rw [e1] at h1 ⊢
  rw [e2] at h2 ⊢
  generalize minL x.1.2 = m1 at *
  generalize minL y.1.2 = m2 at *
  generalize x.1.2.length = n1 at *
  generalize y.1.2.length = n2 at *
  have Hh1 := Lib.hid h1; clear h1; have Hh2 := Lib.hid h2; clear h2
  go_enter Tryz.func138, Tryz.ntmps138
  go_wp2_with fail
  refine Hh1.out.mono ?_
  rintro e w' ⟨rfl, rfl⟩
  go_wp2_with fail
  refine Hh2.out.mono ?_
  rintro e w' ⟨rfl, rfl⟩
  go_wp2_with fail
  go_ret
  exact ⟨rfl, rfl⟩
theorem ltRow {w : World} {g lo : Nat} (x y : RowS w g lo) : ltOf cmpR x y = decide (minL x.1.2 < minL y.1.2) := by
  unfold ltOf cmpR
  exact decide_eq_decide.2 (by omega)
theorem swoR (w : World) (g lo : Nat) : SWO (ltOf (cmpR (w := w) (g := g) (lo := lo))) where
  irrefl := fun x => by rw [ltRow]; simp
  trans := fun x y z => by simp only [ltRow, decide_eq_true_eq]; omega
  ntrans := fun x y z => by simp only [ltRow, decide_eq_false_iff_not]; omega
theorem putCells_map {α : Type} [Inhabited α] (enc : α → Value) (d : Array α) (cur : Array Value) : putCells enc 0 d cur = putCells id 0 (d.map enc) cur := by
  unfold putCells
  apply Array.ext
  · simp
  · intro i h1 h2
    simp only [Array.getElem_mapIdx, Array.size_map, Nat.zero_le, true_and, Nat.zero_add, Nat.sub_zero]
    split
    · rename_i h
      simp [getElem!_pos, h]
    · rfl
theorem cell_sorted {α : Type} [Inhabited α] (enc : α → Value) (W : World) (blk off n : Nat) (dk : Array α) (os : Array Obj) (a : Addr) (h1 : a.block ≠ blk) (h2 : a.block < W.heap.size) : (sortWorld enc W blk off n dk os).cell? a = W.cell? a := by
  unfold sortWorld
  rw [cell?_grow _ _ _ (by rw [size_putRow]; exact h2), cell?_putRow_other enc _ blk off dk a (Or.inl h1)]
  rfl
set_option maxHeartbeats 2000000 in
theorem sortrows_calls {w : World} {base g cap n lo : Nat} {vs : List Value} {Ls : List (List Nat)} (h : w.ownsRow base 28 1 (.slice (some ⟨g, 0, none⟩) n cap) n vs) (hl : Ls.length = n) (hn : 0 < n) (hfew : n ≤ 100000)
    (hrow : ∀ (i : Nat) (v : Value) (L : List Nat), vs[i]? = some v → Ls[i]? = some L → RowAt w g lo (v, L)) :
    Calls Tryz.prog 137 #[.slice (some ⟨g, 0, none⟩) n cap, .func (.func 138) #[] #[]] w fun e w' => e = .returned (.tuple #[]) ∧ w.grownBy w' (some g) ∧
      ∃ (vs' : List Value) (Ls' : List (List Nat)), Ls'.Perm Ls ∧ Ls'.Pairwise (fun x y => ¬ minL y < minL x) ∧ w'.ownsRow base 28 1 (.slice (some ⟨g, 0, none⟩) n cap) n vs' ∧ vs'.length = n ∧ ∀ (i : Nat) (v : Value) (L : List Nat), vs'[i]? = some v → Ls'[i]? = some L → RowAt w g lo (v, L) := by
  have hvs : vs.length = n := by have := h.1; omega
  -- the rows as what they are
  obtain ⟨D, hD1, hD2⟩ : ∃ D : List (RowS w g lo), D.map encR = vs ∧ D.map (fun x => x.1.2) = Ls := by
    have key : ∀ (vs : List Value) (Ls : List (List Nat)), vs.length = Ls.length → (∀ (i : Nat) (v : Value) (L : List Nat), vs[i]? = some v → Ls[i]? = some L → RowAt w g lo (v, L)) → ∃ D : List (RowS w g lo), D.map encR = vs ∧ D.map (fun x => x.1.2) = Ls := fun vs => by
      induction vs with
      | nil =>
        intro Ls h1 _
        cases Ls with
        | nil => exact ⟨[], rfl, rfl⟩
        | cons L Ls => simp at h1
      | cons v vs ih =>
        intro Ls h1 h2
        cases Ls with
        | nil => simp at h1
        | cons L Ls =>
          obtain ⟨D, e1, e2⟩ := ih Ls (by simpa using h1) fun i a b ha hb => h2 (i + 1) a b (by simpa using ha) (by simpa using hb)
          exact ⟨⟨(v, L), h2 0 v L rfl rfl⟩ :: D, by rw [List.map_cons, e1]; rfl, by rw [List.map_cons, e2]⟩
    exact key vs Ls (by omega) hrow
  have hDl : D.length = n := by rw [← hvs, ← hD1, List.length_map]
  haveI : Inhabited (RowS w g lo) := ⟨D[0]'(by omega)⟩
  have eg : ∀ args w, (callFunc 138 args).run Tryz.prog w = .ok (.enter 138 args) w := enters_of Tryz.func138 (by kernel_rfl) rfl
  have hlay : CmpLays1 Tryz.prog 138 #[] (encR (w := w) (g := g) (lo := lo)) cmpR g 0 D.toArray.size w := fun m os dk _ x y => by
    refine (cmprow_calls x y _ fun a h1 h2 => cell_sorted encR w g 0 m dk os a h1 h2).mono ?_
    rintro e w' ⟨rfl, rfl⟩
    exact ⟨rfl, 0, #[], by rw [grow_empty]; rfl⟩
  have hH : Holds encR w g 0 D.toArray := by
    intro j hj
    have hj : j < D.length := by simpa using hj
    rw [Nat.zero_add]
    refine ⟨?_, h.frozenAt j⟩
    rw [h.cellAt j (by omega), ← hD1, List.getElem?_map, List.getElem?_eq_getElem hj]
    simp [getElem!_pos, hj]
  have h1c : OneCell (encR (w := w) (g := g) (lo := lo)) := fun x => by
    obtain ⟨b, off, cap, h1, _⟩ := x.2.at_
    unfold encR
    rw [h1]; rfl
  have hcon := Any.slices_SortFunc Tryz.sortRows encR h1c cmpR (swoR w g lo) 138 #[] g 0 cap D.toArray w eg hlay hH (h.lt g rfl).2 (by simp; omega)
  rw [show D.toArray.size = n by simp [hDl]] at hcon
  change Calls Tryz.prog 137 _ _ _ at hcon
  refine hcon.mono ?_
  rintro e w' ⟨rfl, d', m, os, hp, hso, rfl⟩
  have hsz : d'.size = n := by have := hp.1; simpa [hDl] using this
  have hperm : d'.toList.Perm D := by
    have := hp.2.2
    have e1 : d'.extract 0 n = d' := by rw [← hsz]; simp
    have e2 : D.toArray.extract 0 n = D.toArray := by rw [← hDl]; simp
    rw [e1, e2] at this
    simpa using this
  refine ⟨rfl, ?_, d'.toList.map encR, d'.toList.map (fun x => x.1.2), by rw [← hD2]; exact hperm.map _, ?_, ?_, by simp [hsz], ?_⟩
  · unfold sortWorld
    exact grown_sorted encR d'
  · rw [List.pairwise_map, List.pairwise_iff_getElem]
    intro i j hi hj hij
    have := hso i j (by omega) hij (by simpa [hsz] using hj)
    rw [ltRow] at this
    simp at hi hj
    simpa [getElem!_pos, hi, hj] using this
  · have hF := own_sorted (m := m) (os := os) (d'.map encR) h (by simp [hsz])
    unfold sortWorld
    have e : putRow encR (Sort.ahead w m) g 0 d' = putRow id (Sort.ahead w m) g 0 (d'.map encR) := by
      unfold putRow
      rw [show putCells encR 0 d' = putCells id 0 (d'.map encR) from funext fun cur => putCells_map encR d' cur]
    rw [e]
    simpa using hF
  · intro i v L h1 h2
    rw [List.getElem?_map] at h1 h2
    cases h9 : d'.toList[i]? with
    | none => rw [h9] at h1; cases h1
    | some x =>
      rw [h9] at h1 h2
      have e1 : encR x = v := by simpa using h1
      have e2 : x.1.2 = L := by simpa using h2
      subst e1; subst e2
      exact x.2
end Go.Proofs.YtpbdcppaiafbgaaGreat

namespace Go.Words
open Go Go.RowKit
theorem wpList_lookG {P : Program} (w : World) {ops : Array Oper} {rest : List Oper} {o : Oper} {a : Act} {Q : Exit → Act → World → Prop} {κ α : Type} [DecidableEq κ] {enc : κ → Value} {ok : κ → Prop} {ev : α → Value}
    (hg : Region.wanted o (yielded ops a.tmps) = true) (m x : Operand) (t : TypeId) (hop : o.op = Op.lookup t m x false) (k e : TypeId) (K : KeyT P k enc ok) (ht : P.underlying t = some (.map k e)) {z : Value} (hz : ∀ w, (zeroValue e).run P w = .ok z w)
    (b : Nat) (l : List (κ × α)) (hm : a.eval m = .map (some b)) (hown : Mp enc ok ev w b l) (key : κ) (hx : a.eval x = enc key) (hkey : ok key)
    (hK : wpList P ops Q rest (a.put o.dst (((look l key).map ev).getD z)) w) : wpList P ops Q (o :: rest) a w := by
  refine wpList_step fun K' hK' => ?_
  rw [if_pos hg]
  have hrun := hown.look_run K ht (hz w) hkey false
  unfold Oper.wp
  simp [execOp, hop, hm, hx, hrun, Result.andThen]
  exact hK' _ _ hK
end Go.Words
namespace Go.Proofs.YtpbdcppaiafbgaaGreat
open Go Go.RowKit Go.Words Go.Mesh
structure SecJ (w : World) (gb g : Nat) (tg : Option Addr) (v : Int) (out : List (List Nat)) (row : List Nat) (op : Bool) (W : World) : Prop where
  b0 : Boxed W gb 102 (.pointer (some ⟨g, 0, none⟩))
  b1 : Boxed W (gb + 1) 3 (.int .i64 v)
  b5 : Boxed W (gb + 5) 46 (.pointer tg)
  rows : ∃ vo vs rv, Boxed W (gb + 1 + 1) 78 vo ∧ W.ownsRow (gb + 7) 28 1 vo vs.length vs ∧ Boxed W (gb + 1 + 1 + 1) 28 rv ∧ Fam W (gb + 7) 3 (vs ++ [rv]) (out ++ [row])
  b4 : Boxed W (gb + 1 + 1 + 1 + 1) 4 (.bool op)
  bl : Below gb w W
  sz : gb + 7 ≤ W.heap.size
theorem SecJ.len {w W : World} {gb g : Nat} {tg : Option Addr} {v : Int} {out : List (List Nat)} {row : List Nat} {op : Bool} (hs : SecJ w gb g tg v out row op W) : ∃ vo vs rv, Boxed W (gb + 1 + 1) 78 vo ∧ W.ownsRow (gb + 7) 28 1 vo vs.length vs ∧ Boxed W (gb + 1 + 1 + 1) 28 rv ∧ Fam W (gb + 7) 3 (vs ++ [rv]) (out ++ [row]) ∧ W.ownsRow (gb + 7) 3 1 rv row.length (row.map Words.encI) ∧ vs.length = out.length := by
  obtain ⟨vo, vs, rv, h1, h2, h3, h4⟩ := hs.rows
  have hl := h4.len
  have hvl : vs.length = out.length := by simp at hl; exact hl
  have hr0 := h4.own vs.length (by simp) (by simp [hvl])
  rw [List.getElem_append_right (Nat.le_refl _)] at hr0
  simp only [Nat.sub_self, List.getElem_cons_zero] at hr0
  have e0 : (out ++ [row])[vs.length]'(by simp [hvl]) = row := by simp [hvl]
  rw [e0] at hr0
  exact ⟨vo, vs, rv, h1, h2, h3, h4, hr0, hvl⟩
theorem boxed_non {W W' : World} {row : Option Nat} {n : Nat} {t : TypeId} {v : Value} (h : Boxed W n t v) (hg : W.grownBy W' row) (hr : ∀ r, row = some r → ∃ o : Obj, W.heap[r]? = some o ∧ o.isCells = false) : Boxed W' n t v :=
  h.kept hg fun e => by
    obtain ⟨o, ho, hc⟩ := hr n e.symm
    rw [show W.heap[n]? = _ from h] at ho; cases ho; cases hc
theorem own_non {W : World} {row : Option Nat} {base size n : Nat} {e : TypeId} {v : Value} {xs : List Value} (h : W.ownsRow base e size v n xs) (hr : ∀ r, row = some r → ∃ o : Obj, W.heap[r]? = some o ∧ o.isCells = false) : (v.ownBlock = none ∨ v.ownBlock ≠ row) := by
  rcases h.2 with ⟨hv, _⟩ | ⟨g, cap, cur, hv, _, hgb, _⟩
  · left; rw [hv]; rfl
  · right
    intro h9
    rw [hv] at h9
    have h9 : some g = row := by simpa [Value.ownBlock] using h9
    obtain ⟨o, ho, hc⟩ := hr g h9.symm
    rw [hgb] at ho; cases ho; cases hc
theorem fam_non {W W' : World} {row : Option Nat} {base : Nat} {e : TypeId} {vs : List Value} {Ls : List (List Nat)} (h : Fam W base e vs Ls) (hg : W.grownBy W' row) (hr : ∀ r, row = some r → ∃ o : Obj, W.heap[r]? = some o ∧ o.isCells = false) : Fam W' base e vs Ls :=
  h.kept hg fun i hi => own_non (h.own i hi (by rw [← h.len]; exact hi)) hr
theorem boxed_below {W W' : World} {n : Nat} {t : TypeId} {v : Value} {B : Nat} (h : Boxed W n t v) (hb : Below B W W') (hn : n < B) : Boxed W' n t v := (hb.block n hn).trans h
theorem fam_box {W : World} {base b : Nat} {e : TypeId} {vs : List Value} {Ls : List (List Nat)} (h : Fam W base e vs Ls) (hb : b < base) (u : Value) : Fam (W.setCell ⟨b, 0, none⟩ u) base e vs Ls :=
  h.kept (grownBy_setCell' W b u) fun i hi => .inr fun e9 => by have := ((h.own i hi (by rw [← h.len]; exact hi)).lt b e9).1; omega
theorem own_box {W : World} {base b size n : Nat} {e : TypeId} {v u : Value} {xs : List Value} (h : W.ownsRow base e size v n xs) (hb : b < base) : (W.setCell ⟨b, 0, none⟩ u).ownsRow base e size v n xs :=
  h.kept (grownBy_setCell' W b u) (.inr fun e9 => by have := (h.lt b e9).1; omega)
section
variable {w W W1 : World} {gb g : Nat} {tg : Option Addr} {v : Int} {out : List (List Nat)} {row : List Nat} {op : Bool}
theorem SecJ.non {W' : World} {r : Option Nat} {B : Nat} (hw : gb ≤ w.heap.size) (hB : gb ≤ B) (hs : SecJ w gb g tg v out row op W) (hg : W.grownBy W' r) (hr : ∀ k, r = some k → B ≤ k ∧ ∃ o : Obj, W.heap[k]? = some o ∧ o.isCells = false) : SecJ w gb g tg v out row op W' := by
  have hr2 : ∀ k, r = some k → ∃ o : Obj, W.heap[k]? = some o ∧ o.isCells = false := fun k e => (hr k e).2
  obtain ⟨vo, vs, rv, h1, h2, h3, h4⟩ := hs.rows
  exact {
    b0 := boxed_non hs.b0 hg hr2
    b1 := boxed_non hs.b1 hg hr2
    b5 := boxed_non hs.b5 hg hr2
    rows := ⟨vo, vs, rv, boxed_non h1 hg hr2, h2.kept hg (own_non h2 hr2), boxed_non h3 hg hr2, fam_non h4 hg hr2⟩
    b4 := boxed_non hs.b4 hg hr2
    bl := hs.bl.grown hg (Nat.le_trans hw hs.bl.size) fun k e => Nat.le_trans hB (hr k e).1
    sz := Nat.le_trans hs.sz hg.size }
theorem SecJ.below {W' : World} (hs : SecJ w gb g tg v out row op W) (hb : Below W.heap.size W W') : SecJ w gb g tg v out row op W' := by
  have hsz := hs.sz
  obtain ⟨vo, vs, rv, h1, h2, h3, h4⟩ := hs.rows
  exact {
    b0 := boxed_below hs.b0 hb (by omega)
    b1 := boxed_below hs.b1 hb (by omega)
    b5 := boxed_below hs.b5 hb (by omega)
    rows := ⟨vo, vs, rv, boxed_below h1 hb (by omega), own_below h2 hb (Nat.le_refl _), boxed_below h3 hb (by omega), h4.below hb (Nat.le_refl _)⟩
    b4 := boxed_below hs.b4 hb (by omega)
    bl := hs.bl.trans (hb.mono (by omega))
    sz := Nat.le_trans hs.sz hb.size }
theorem keeps_below {W W' : World} (hb : Below W.heap.size W W') : KeepsOthers W W' := KeepsOthers.of_grownBy (grown_below hb) (fun _ _ e => by cases e)
theorem SecJ.mark (hs : SecJ w gb g tg v out row op W) (op' : Bool) : SecJ w gb g tg v out row op' (W.setCell ⟨gb + 1 + 1 + 1 + 1, 0, none⟩ (.bool op')) ∧ KeepsOthers W (W.setCell ⟨gb + 1 + 1 + 1 + 1, 0, none⟩ (.bool op')) ∧ Below gb W (W.setCell ⟨gb + 1 + 1 + 1 + 1, 0, none⟩ (.bool op')) := by
  obtain ⟨vo, vs, rv, h1, h2, h3, h4⟩ := hs.rows
  refine ⟨{
    b0 := hs.b0.other (by omega) _
    b1 := hs.b1.other (by omega) _
    b5 := hs.b5.other (by omega) _
    rows := ⟨vo, vs, rv, h1.other (by omega) _, own_box h2 (by omega), h3.other (by omega) _, fam_box h4 (by omega) _⟩
    b4 := hs.b4.set _
    bl := hs.bl.setCell (p := ⟨gb + 1 + 1 + 1 + 1, 0, none⟩) (by show gb ≤ gb + 1 + 1 + 1 + 1; omega) _
    sz := by have := hs.sz; exact Nat.le_trans this (KeepsOthers.setCell W ⟨gb + 1 + 1 + 1 + 1, 0, none⟩ (.bool op')).size }, KeepsOthers.setCell _ _ _, (Below.refl gb W).setCell (p := ⟨gb + 1 + 1 + 1 + 1, 0, none⟩) (by show gb ≤ gb + 1 + 1 + 1 + 1; omega) _⟩
theorem SecJ.app (hs : SecJ w gb g tg v out row op W) {vo rv v' : Value} {vs : List Value} (h1 : Boxed W (gb + 1 + 1) 78 vo) (h2 : W.ownsRow (gb + 7) 28 1 vo vs.length vs) (h3 : Boxed W (gb + 1 + 1 + 1) 28 rv) (h4 : Fam W (gb + 7) 3 (vs ++ [rv]) (out ++ [row]))
    {tmp : Obj} {c : Nat} (hown : W1.ownsRow (gb + 7) 3 1 v' (row.length + 1) (row.map Words.encI ++ [.int .i64 (c : Int)])) (hgr : (W.alloc tmp).grownBy W1 rv.ownBlock) (hat : v'.ownBlock = rv.ownBlock ∨ v'.ownBlock = some (W.alloc tmp).heap.size) :
    SecJ w gb g tg v out (row ++ [c]) op (W1.setCell ⟨gb + 1 + 1 + 1, 0, none⟩ v') ∧ KeepsOthers W (W1.setCell ⟨gb + 1 + 1 + 1, 0, none⟩ v') ∧ Below gb W (W1.setCell ⟨gb + 1 + 1 + 1, 0, none⟩ v') := by
  have hsz := hs.sz
  have hl := h4.len
  have hvl : vs.length = out.length := by simp at hl; exact hl
  have hr0 := h4.own vs.length (by simp) (by simp [hvl])
  rw [List.getElem_append_right (Nat.le_refl _)] at hr0
  simp only [Nat.sub_self, List.getElem_cons_zero] at hr0
  have e0 : (out ++ [row])[vs.length]'(by simp [hvl]) = row := by simp [hvl]
  rw [e0] at hr0
  obtain ⟨_, g2, _, g4, g5, g6⟩ := own_append (B := gb + 1 + 1 + 1) h3 (by omega) hr0 hsz hown hgr
  have hob : ∀ n t u, n < gb + 7 → n ≠ gb + 1 + 1 + 1 → Boxed W n t u → Boxed (W1.setCell ⟨gb + 1 + 1 + 1, 0, none⟩ v') n t u := g6
  have h4a := h4.below ((Below.refl W.heap.size W).alloc (Nat.le_refl _) tmp) (Nat.le_refl _)
  have h2a := own_below h2 ((Below.refl W.heap.size W).alloc (Nat.le_refl _) tmp) (Nat.le_refl _)
  have hr0a := own_below hr0 ((Below.refl W.heap.size W).alloc (Nat.le_refl _) tmp) (Nat.le_refl _)
  have h4b := h4a.set (i := vs.length) (by simp) (v' := v') (L' := row ++ [c]) (w' := W1) (by rw [List.length_append, List.map_append]; exact hown)
    (by rw [List.getElem_append_right (Nat.le_refl _)]; simpa using hgr) (by
      rw [List.getElem_append_right (Nat.le_refl _)]
      simp only [Nat.sub_self, List.getElem_cons_zero]
      rcases hat with h9 | h9
      · exact .inl h9
      · exact .inr ⟨_, h9, Nat.le_refl _⟩)
  have e1 : (vs ++ [rv]).set vs.length v' = vs ++ [v'] := by simp
  have e2 : (out ++ [row]).set vs.length (row ++ [c]) = out ++ [row ++ [c]] := by rw [hvl]; simp
  rw [e1, e2] at h4b
  have h2b := h2a.kept hgr (own_apart hr0a h2a (by decide))
  refine ⟨{
    b0 := hob _ _ _ (by omega) (by omega) hs.b0
    b1 := hob _ _ _ (by omega) (by omega) hs.b1
    b5 := hob _ _ _ (by omega) (by omega) hs.b5
    rows := ⟨vo, vs, v', hob _ _ _ (by omega) (by omega) h1, own_box h2b (by omega), g2, fam_box h4b (by omega) _⟩
    b4 := hob _ _ _ (by omega) (by omega) hs.b4
    bl := hs.bl.trans (g5 gb (by omega))
    sz := Nat.le_trans hsz g4.size }, g4, g5 gb (by omega)⟩
theorem SecJ.push (hs : SecJ w gb g tg v out row op W) {vo rv v' : Value} {vs : List Value} (h1 : Boxed W (gb + 1 + 1) 78 vo) (h2 : W.ownsRow (gb + 7) 28 1 vo vs.length vs) (h3 : Boxed W (gb + 1 + 1 + 1) 28 rv) (h4 : Fam W (gb + 7) 3 (vs ++ [rv]) (out ++ [row]))
    {tmp : Obj} (hown : W1.ownsRow (gb + 7) 28 1 v' (vs.length + 1) (vs ++ [rv])) (hgr : (W.alloc tmp).grownBy W1 vo.ownBlock) :
    SecJ w gb g tg v (out ++ [row]) [] op ((W1.setCell ⟨gb + 1 + 1, 0, none⟩ v').setCell ⟨gb + 1 + 1 + 1, 0, none⟩ (.slice none 0 0)) ∧ KeepsOthers W ((W1.setCell ⟨gb + 1 + 1, 0, none⟩ v').setCell ⟨gb + 1 + 1 + 1, 0, none⟩ (.slice none 0 0)) ∧ Below gb W ((W1.setCell ⟨gb + 1 + 1, 0, none⟩ v').setCell ⟨gb + 1 + 1 + 1, 0, none⟩ (.slice none 0 0)) ∧
    Boxed ((W1.setCell ⟨gb + 1 + 1, 0, none⟩ v').setCell ⟨gb + 1 + 1 + 1, 0, none⟩ (.slice none 0 0)) (gb + 1 + 1) 78 v' ∧ ((W1.setCell ⟨gb + 1 + 1, 0, none⟩ v').setCell ⟨gb + 1 + 1 + 1, 0, none⟩ (.slice none 0 0)).ownsRow (gb + 7) 28 1 v' (vs ++ [rv]).length (vs ++ [rv]) ∧
    Boxed ((W1.setCell ⟨gb + 1 + 1, 0, none⟩ v').setCell ⟨gb + 1 + 1 + 1, 0, none⟩ (.slice none 0 0)) (gb + 1 + 1 + 1) 28 (.slice none 0 0) ∧ Fam ((W1.setCell ⟨gb + 1 + 1, 0, none⟩ v').setCell ⟨gb + 1 + 1 + 1, 0, none⟩ (.slice none 0 0)) (gb + 7) 3 ((vs ++ [rv]) ++ [.slice none 0 0]) ((out ++ [row]) ++ [[]]) := by
  have hsz := hs.sz
  obtain ⟨_, g2, g3, g4, g5, g6⟩ := own_append (B := gb + 1 + 1) h1 (by omega) h2 hsz hown hgr
  have hob : ∀ n t u, n < gb + 7 → n ≠ gb + 1 + 1 → Boxed W n t u → Boxed (W1.setCell ⟨gb + 1 + 1, 0, none⟩ v') n t u := g6
  have h4a := h4.below ((Below.refl W.heap.size W).alloc (Nat.le_refl _) tmp) (Nat.le_refl _)
  have h2a := own_below h2 ((Below.refl W.heap.size W).alloc (Nat.le_refl _) tmp) (Nat.le_refl _)
  have h4b := h4a.kept hgr fun i hi => own_apart h2a (h4a.own i hi (by rw [← h4a.len]; exact hi)) (by decide)
  have h4c := (fam_box h4b (b := gb + 1 + 1) (by omega) v').snoc_nil
  have hk := g4.trans (KeepsOthers.setCell (W1.setCell ⟨gb + 1 + 1, 0, none⟩ v') ⟨gb + 1 + 1 + 1, 0, none⟩ (.slice none 0 0))
  have r1 := g2.other (B' := gb + 1 + 1 + 1) (by omega) (.slice none 0 0)
  have r2 := own_box (u := .slice none 0 0) (show (W1.setCell ⟨gb + 1 + 1, 0, none⟩ v').ownsRow (gb + 7) 28 1 v' (vs ++ [rv]).length (vs ++ [rv]) by rw [List.length_append]; exact g3) (show gb + 1 + 1 + 1 < gb + 7 by omega)
  have r3 := (hob _ _ _ (by omega) (by omega) h3).set (.slice none 0 0)
  have r4 := fam_box h4c (b := gb + 1 + 1 + 1) (by omega) (.slice none 0 0)
  refine ⟨{
    b0 := (hob _ _ _ (by omega) (by omega) hs.b0).other (by omega) _
    b1 := (hob _ _ _ (by omega) (by omega) hs.b1).other (by omega) _
    b5 := (hob _ _ _ (by omega) (by omega) hs.b5).other (by omega) _
    rows := ⟨v', vs ++ [rv], .slice none 0 0, r1, r2, r3, r4⟩
    b4 := (hob _ _ _ (by omega) (by omega) hs.b4).other (by omega) _
    bl := (hs.bl.trans (g5 gb (by omega))).setCell (p := ⟨gb + 1 + 1 + 1, 0, none⟩) (by show gb ≤ gb + 1 + 1 + 1; omega) _
    sz := Nat.le_trans hsz hk.size }, hk, (g5 gb (by omega)).setCell (p := ⟨gb + 1 + 1 + 1, 0, none⟩) (by show gb ≤ gb + 1 + 1 + 1; omega) _, r1, r2, r3, r4⟩
theorem SecJ.tell (hs : SecJ w gb g tg v out row op W) {vo rv v' : Value} {vs : List Value} (h1 : Boxed W (gb + 1 + 1) 78 vo) (h2 : W.ownsRow (gb + 7) 28 1 vo vs.length vs) (h4 : Fam W (gb + 7) 3 (vs ++ [rv]) (out ++ [row]))
    {tmp : Obj} (hown : W1.ownsRow (gb + 7) 28 1 v' (vs.length + 1) (vs ++ [rv])) (hgr : (W.alloc tmp).grownBy W1 vo.ownBlock) :
    Boxed (W1.setCell ⟨gb + 1 + 1, 0, none⟩ v') (gb + 1 + 1) 78 v' ∧ (W1.setCell ⟨gb + 1 + 1, 0, none⟩ v').ownsRow (gb + 7) 28 1 v' (vs.length + 1) (vs ++ [rv]) ∧ Fam (W1.setCell ⟨gb + 1 + 1, 0, none⟩ v') (gb + 7) 3 (vs ++ [rv]) (out ++ [row]) ∧
    Boxed (W1.setCell ⟨gb + 1 + 1, 0, none⟩ v') (gb + 1 + 1 + 1 + 1) 4 (.bool op) ∧ KeepsOthers W (W1.setCell ⟨gb + 1 + 1, 0, none⟩ v') ∧ Below gb w (W1.setCell ⟨gb + 1 + 1, 0, none⟩ v') := by
  have hsz := hs.sz
  obtain ⟨_, g2, g3, g4, g5, g6⟩ := own_append (B := gb + 1 + 1) h1 (by omega) h2 hsz hown hgr
  have h4a := h4.below ((Below.refl W.heap.size W).alloc (Nat.le_refl _) tmp) (Nat.le_refl _)
  have h2a := own_below h2 ((Below.refl W.heap.size W).alloc (Nat.le_refl _) tmp) (Nat.le_refl _)
  have h4b := h4a.kept hgr fun i hi => own_apart h2a (h4a.own i hi (by rw [← h4a.len]; exact hi)) (by decide)
  exact ⟨g2, g3, fam_box h4b (by omega) v', g6 _ _ _ (by omega) (by omega) hs.b4, g4, hs.bl.trans (g5 gb (by omega))⟩
theorem own_prefix {base size n m : Nat} {e : TypeId} {a : Nat} {cap : Nat} {xs : List Value} (h : W.ownsRow base e size (.slice (some ⟨a, 0, none⟩) n cap) n xs) (hm : m ≤ n) : W.ownsRow base e size (.slice (some ⟨a, 0, none⟩) m cap) m (xs.take (m * size)) := by
  rcases h.2 with ⟨h0, _⟩ | ⟨g', cap', cur, hv, hb, hg, hle, hmax, hsz, hx⟩
  · cases h0
  injection hv with hv _ hc
  injection hv with hv
  injection hv with hv
  subst hv; subst hc
  have hms : m * size ≤ n * size := Nat.mul_le_mul_right _ hm
  refine ⟨by rw [List.length_take, h.1]; omega, .inr ⟨_, _, cur, rfl, hb, hg, by omega, hmax, hsz, ?_⟩⟩
  rw [← hx, List.take_take, Nat.min_eq_left hms]
theorem rowAt_of {base a : Nat} {vv : Value} {r : List Nat} (h : W.ownsRow base 3 1 vv r.length (r.map Words.encI)) (hne : r ≠ []) (hf : r.length ≤ 100000) (hs : ∀ c ∈ r, c ≤ 100000) {n cap : Nat} {vs : List Value} (ha : W.ownsRow base 28 1 (.slice (some ⟨a, 0, none⟩) n cap) n vs) : RowAt W a base (vv, r) := by
  obtain ⟨b, c, hv, hb, hlt⟩ := own_some h (List.length_pos_iff.2 hne)
  subst hv
  obtain ⟨A, cap', e9, hcap⟩ := own_form h
  have e8 : c = cap' := by injection e9
  refine ⟨hne, hf, hs, b, 0, c, rfl, fun e => ?_, hlt, hb, by show r.length ≤ c; omega, fun i hi => ?_⟩
  · subst e
    rcases own_apart ha h (by decide) with h9 | h9
    · cases h9
    · exact h9 rfl
  · have hi : i < r.length := hi
    rw [Nat.zero_add, h.cellAt i (by omega), List.getElem?_map, List.getElem?_eq_getElem hi]
    rfl
theorem fam_last {base : Nat} {vs : List Value} {rv : Value} {Ls : List (List Nat)} {r : List Nat} (h4 : Fam W base 3 (vs ++ [rv]) (Ls ++ [r])) : W.ownsRow base 3 1 rv r.length (r.map Words.encI) := by
  have hl := h4.len
  have hvl : vs.length = Ls.length := by simp at hl; exact hl
  have hr0 := h4.own vs.length (by simp) (by simp [hvl])
  rw [List.getElem_append_right (Nat.le_refl _)] at hr0
  simp only [Nat.sub_self, List.getElem_cons_zero] at hr0
  have e0 : (Ls ++ [r])[vs.length]'(by simp [hvl]) = r := by simp [hvl]
  rw [e0] at hr0
  exact hr0
theorem own_add {base n cap : Nat} {e : TypeId} {a : Nat} {xs : List Value} (h : W.ownsRow base e 1 (.slice (some ⟨a, 0, none⟩) n cap) n xs) : ∀ (j : Nat) (u : Value), xs[j]? = some u → W.cell? ((⟨a, 0, none⟩ : Addr).add j) = some u := fun j u hj => by
  have hl := h.1
  have hlt := (List.getElem?_eq_some_iff.1 hj).1
  have e9 : (⟨a, 0, none⟩ : Addr).add j = ⟨a, j, none⟩ := by unfold Addr.add; simp; omega
  rw [e9, h.cellAt j (by omega)]
  exact hj
theorem own_put0 {base n cap : Nat} {e : TypeId} {a : Nat} {xs : List Value} (h : W.ownsRow base e 1 (.slice (some ⟨a, 0, none⟩) n cap) n xs) (i : Nat) (u : Value) : (W.setCell ⟨a, i, none⟩ u).ownsRow base e 1 (.slice (some ⟨a, 0, none⟩) n cap) n (xs.set i u) := by
  refine ⟨by rw [List.length_set]; exact h.1, ?_⟩
  rcases h.2 with ⟨h1, _⟩ | ⟨g', cap', cur, h1, hb, hg, hle, hmax, hsz, hx⟩
  · cases h1
  · injection h1 with h1 _ h2
    injection h1 with h1
    injection h1 with h1
    subst h1; subst h2
    have hbk : Bk W a e cur.toList := by unfold Bk; rw [hg]
    have h2 := hbk.set i u
    unfold Bk at h2
    exact .inr ⟨a, cap, (cur.toList.set i u).toArray, rfl, hb, h2, hle, hmax, by simpa using hsz, by rw [← hx, List.take_set]⟩
theorem fam_tail {base : Nat} {v0 rv : Value} {vs : List Value} {r0 r : List Nat} {Ls : List (List Nat)} (h4 : Fam W base 3 ((v0 :: vs) ++ [rv]) ((r0 :: Ls) ++ [r])) {W' : World} (hg : W.grownBy W' rv.ownBlock) : Fam W' base 3 vs Ls := by
  have hl := h4.len
  have hvl : vs.length = Ls.length := by simp at hl; exact hl
  refine ⟨hvl, fun i h1 h2 => ?_, fun i j h1 h2 hne => ?_⟩
  · have h := h4.own (i + 1) (by simp; omega) (by simp; omega)
    have ha := h4.apart (i + 1) (vs.length + 1) (by simp; omega) (by simp) (by omega)
    simp only [List.cons_append, List.getElem_cons_succ] at h ha
    rw [List.getElem_append_left h1, List.getElem_append_left h2] at h
    rw [List.getElem_append_left h1, List.getElem_append_right (Nat.le_refl _)] at ha
    simp only [Nat.sub_self, List.getElem_cons_zero] at ha
    exact h.kept hg ha
  · have ha := h4.apart (i + 1) (j + 1) (by simp; omega) (by simp; omega) (by omega)
    simp only [List.cons_append, List.getElem_cons_succ] at ha
    rw [List.getElem_append_left h1, List.getElem_append_left h2] at ha
    exact ha
theorem fam_rowAt {base a n cap : Nat} {vs vo : List Value} {Ls : List (List Nat)} (h : Fam W base 3 vs Ls) (hg : ∀ r ∈ Ls, r ≠ [] ∧ r.length ≤ 50000 ∧ ∀ c ∈ r, c ≤ 50000) (ha : W.ownsRow base 28 1 (.slice (some ⟨a, 0, none⟩) n cap) n vo) :
    ∀ (i : Nat) (v : Value) (L : List Nat), vs[i]? = some v → Ls[i]? = some L → RowAt W a base (v, L) := fun i v L h1 h2 => by
  obtain ⟨g1, rfl⟩ := List.getElem?_eq_some_iff.1 h1
  obtain ⟨g2, rfl⟩ := List.getElem?_eq_some_iff.1 h2
  obtain ⟨k1, k2, k3⟩ := hg _ (List.getElem_mem g2)
  exact rowAt_of (h.own i g1 g2) k1 (by omega) (fun c hc => by have := k3 c hc; omega) ha
theorem own_cells {base a n cap size : Nat} {e : TypeId} {vo : List Value} (ha : W.ownsRow base e size (.slice (some ⟨a, 0, none⟩) n cap) n vo) : ∀ (j : Nat) (o : Obj), some a = some j → W.heap[j]? = some o → o.isCells = true := fun j o e1 e2 => by
  injection e1 with e1
  subst e1
  rcases ha.2 with ⟨h0, _⟩ | ⟨g', cap', cur, hv, hb, hg, _⟩
  · cases h0
  injection hv with hv
  injection hv with hv
  injection hv with hv
  subst hv
  rw [hg] at e2; cases e2; rfl
theorem cell_put {D : Nat} {o o' : Obj} (hK : W.heap[D]? = some o) (ho : o.isCells = false) {a : Addr} {u : Value} (h : W.cell? a = some u) : (W.putObj D o').cell? a = some u := by
  have hne : a.block ≠ D := fun e => by
    unfold World.cell? at h
    rw [e, hK] at h
    cases o <;> first | (cases ho; done) | (cases h; done)
  unfold World.cell? at h ⊢
  rw [World.putObj_heap_other hne]
  exact h
def Fresh (w : World) (lo : Nat) (v : Value) (S : List (List Nat)) : Prop :=
  ∃ a cap, v = .slice (some ⟨a, 0, none⟩) S.length cap ∧ S.length ≤ cap ∧ lo ≤ a ∧ a < w.heap.size ∧
    ∀ i (h : i < S.length), ∃ b o c, w.cell? ⟨a, i, none⟩ = some (.slice (some ⟨b, o, none⟩) S[i].length c) ∧ lo ≤ b ∧ b < w.heap.size ∧ S[i].length ≤ c ∧ S[i].length ≤ 100000 ∧ ∀ j (h' : j < S[i].length), w.cell? ⟨b, o + j, none⟩ = some (.int .i64 (S[i][j] : Int))
theorem cell_of_block {w w' : World} {a : Addr} (h : w'.heap[a.block]? = w.heap[a.block]?) : w'.cell? a = w.cell? a := by unfold World.cell?; rw [h]
theorem Fresh.keep {w w' : World} {lo : Nat} {v : Value} {S : List (List Nat)} (h : Fresh w lo v S) (hk : ∀ k, lo ≤ k → k < w.heap.size → w'.heap[k]? = w.heap[k]?) (hz : w.heap.size ≤ w'.heap.size) : Fresh w' lo v S := by
  obtain ⟨a, cap, h1, h2, h3, h4, h5⟩ := h
  refine ⟨a, cap, h1, h2, h3, by omega, fun i hi => ?_⟩
  obtain ⟨b, o, c, g1, g2, g3, g4, g6, g5⟩ := h5 i hi
  exact ⟨b, o, c, (cell_of_block (hk a h3 h4)).trans g1, g2, by omega, g4, g6, fun j hj => (cell_of_block (hk b g2 g3)).trans (g5 j hj)⟩
theorem rows_back {a cap n D : Nat} {o o' : Obj} {W4 : World} {base lo : Nat} {vs : List Value} {Ls : List (List Nat)} (hlo : lo ≤ base) (hown : W.ownsRow base 28 1 (.slice (some ⟨a, 0, none⟩) n cap) n vs) (hl : Ls.length = n) (hg : W4.grownBy W (some a))
    (hr : ∀ (i : Nat) (v : Value) (L : List Nat), vs[i]? = some v → Ls[i]? = some L → RowAt W4 a base (v, L)) (hK : W.heap[D]? = some o) (ho : o.isCells = false) :
    Fresh (W.putObj D o') lo (.slice (some ⟨a, 0, none⟩) n cap) Ls := by
  have hs : (W.putObj D o').heap.size = W.heap.size := by unfold World.putObj; simp
  obtain ⟨A, cap', e9, hcap⟩ := own_form hown
  have e8 : cap = cap' := by injection e9
  have hlt := hown.lt a rfl
  refine ⟨a, cap, by rw [hl], by omega, by omega, by omega, fun i hi => ?_⟩
  have hvl : vs.length = n := by have := hown.1; omega
  obtain ⟨b, off, c, hv, h1, h2, h3, h4, h5⟩ := (hr i _ _ (List.getElem?_eq_getElem (by omega : i < vs.length)) (List.getElem?_eq_getElem hi)).at_
  simp only [] at hv h4 h5
  refine ⟨b, off, c, cell_put hK ho (by rw [hown.cellAt i (by omega), List.getElem?_eq_getElem (by omega), hv]), by omega, by have := hg.size; omega, h4, (hr i _ _ (List.getElem?_eq_getElem (by omega : i < vs.length)) (List.getElem?_eq_getElem hi)).few, fun j hj => cell_put hK ho ?_⟩
  have hc := h5 j hj
  rw [← hc]
  exact cell_of_block (hg.block b h2 (fun e => h1 (by injection e)))
end
theorem merged {W4 w2 : World} {base gr cap' b : Nat} {v0 rv va : Value} {vs2 : List Value} {r0 row : List Nat} {out2 : List (List Nat)} (hb : b < base) (u : Value)
    (hk2 : W4.ownsRow base 28 1 (.slice (some ⟨gr, 0, none⟩) (vs2.length + 1 + 1) cap') (vs2.length + 1 + 1) ((v0 :: vs2) ++ [rv]))
    (h4 : Fam W4 base 3 ((v0 :: vs2) ++ [rv]) ((r0 :: out2) ++ [row])) (hgr2 : W4.drew.grownBy w2 rv.ownBlock)
    (hown2 : w2.ownsRow base 3 1 va (row.length + r0.length) (row.map Words.encI ++ r0.map Words.encI))
    (hg : ∀ r ∈ (r0 :: out2) ++ [row], r ≠ [] ∧ r.length ≤ 50000 ∧ ∀ c ∈ r, c ≤ 50000) :
    ∃ vs9 : List Value, vs9.length = vs2.length + 1 ∧ ((w2.setCell ⟨gr, 0, none⟩ va).setCell ⟨b, 0, none⟩ u).ownsRow base 28 1 (.slice (some ⟨gr, 0, none⟩) (vs2.length + 1) cap') (vs2.length + 1) vs9 ∧
      ∀ (i : Nat) (v : Value) (L : List Nat), vs9[i]? = some v → ((row ++ r0) :: out2)[i]? = some L → RowAt ((w2.setCell ⟨gr, 0, none⟩ va).setCell ⟨b, 0, none⟩ u) gr base (v, L) := by
  have h4' : Fam W4.drew base 3 ((v0 :: vs2) ++ [rv]) ((r0 :: out2) ++ [row]) := ⟨h4.len, fun i h1 h2 => own_drew (h4.own i h1 h2), h4.apart⟩
  have ht := fam_tail h4' hgr2
  have hk3 := (own_drew hk2).kept hgr2 (own_apart (own_drew (fam_last h4)) (own_drew hk2) (by decide))
  have hk4 := own_box (u := u) (own_put0 hk3 0 va) hb
  have ho4 := own_box (hown2.kept (grownBy_setCell' w2 gr va) (own_apart hk3 hown2 (by decide))) (u := u) hb
  have ht4 := fam_box (ht.kept (grownBy_setCell' w2 gr va) fun i hi => own_apart hk3 (ht.own i hi (by rw [← ht.len]; exact hi)) (by decide)) hb u
  have hk5 := own_prefix hk4 (m := vs2.length + 1) (by omega)
  have hr0 := hg r0 (by simp)
  have hrw := hg row (by simp)
  refine ⟨va :: vs2, rfl, ?_, ?_⟩
  · have e : List.take ((vs2.length + 1) * 1) ((v0 :: vs2 ++ [rv]).set 0 va) = va :: vs2 := by simp
    rw [e] at hk5; exact hk5
  · intro i v L h1 h2
    cases i with
    | zero =>
      injection h1 with h1
      injection h2 with h2
      subst h1; subst h2
      refine rowAt_of (r := row ++ r0) (by rw [List.length_append, List.map_append]; exact ho4) (by have := hrw.1; simp [this]) (by rw [List.length_append]; omega) ?_ hk4
      intro c hc
      rcases List.mem_append.1 hc with h | h
      · have := hrw.2.2 c h; omega
      · have := hr0.2.2 c h; omega
    | succ i => exact fam_rowAt ht4 (fun r hr => hg r (by simp [hr])) hk4 i v L h1 h2
end Go.Proofs.YtpbdcppaiafbgaaGreat
