/- The law BorderCloses, walked. -/
import Derived.Test.YtckkpmjkajkkmaaBZ
import Derived.Test.YtckkpmjkajkkmaaTU
namespace Go.Mesh
theorem on_all {T : List T3} {i : Nat} {t : T3} (h : ∀ m, m < 3 → ∃ k, k < 3 ∧ vt T (3 * i + k) = vx t m) {m : Nat} (hm : m < 3) : ∃ k, k < 3 ∧ vx (T.getD i (0, 0, 0)) k = vx t m := by
  obtain ⟨k, hk, e⟩ := h m hm
  refine ⟨k, hk, ?_⟩
  rw [← e]
  unfold vt
  rw [show (3 * i + k) / 3 = i by omega, show (3 * i + k) % 3 = k by omega]
end Go.Mesh
namespace Go.Proofs.Ytckkpmjkajkkmaa
open Go Go.RowKit Go.Words Go.Mesh

theorem haB_of {t : T3} {v : Int} {k : Nat} (hk : k < 3) (h : vx t k = v) : haB t v = true := by
  have h3 : k = 0 ∨ k = 1 ∨ k = 2 := by omega
  unfold haB
  rcases h3 with rfl | rfl | rfl
  · have : t.1 = v := h
    simp [this]
  · have : t.2.1 = v := h
    simp [this]
  · have : t.2.2 = v := h
    simp [this]
theorem hole_of {N : Int} {T : List T3} (h : Surf N T) (hfew : T.length ≤ 8191) {L : List Nat} (hL : L ∈ lps T N N.toNat) (h3 : L.length = 3) :
    ∃ x y z : Nat, L = [x, y, z] ∧ 0 < T.length ∧ ((¬ ∃ i, i < T.length ∧ onB x y z (triAt T i) = true) → Hole N T ((x : Int), (y : Int), (z : Int))) := by
  obtain ⟨_, u, _, rfl, a, ha⟩ := h.lps_each _ L hL
  have hb := h.loop_is ha
  have hT : 0 < T.length := by
    obtain ⟨c, hc, _⟩ := h.aftV_iff.1 ha
    omega
  generalize loopAt T N (u : Int) = L at *
  obtain ⟨x, y, z, rfl⟩ : ∃ x y z, L = [x, y, z] := by
    match L, h3 with
    | [x, y, z], _ => exact ⟨x, y, z, rfl⟩
  have hx : x = u := by have := hb.head; simpa using this
  subst hx
  have a0 := hb.step 0 x y rfl rfl
  have a1 := hb.step 1 y z rfl rfl
  have a2 := hb.last z rfl
  refine ⟨x, y, z, rfl, hT, fun hno => ⟨h, hfew, fun k hk => ?_, fun i hi hall => hno ⟨i, hi, ?_⟩⟩⟩
  · have h9 : k = 0 ∨ k = 1 ∨ k = 2 := by omega
    rcases h9 with rfl | rfl | rfl
    · exact a0
    · exact a1
    · exact a2
  · obtain ⟨m0, hm0, e0⟩ := hall 0 (by omega)
    obtain ⟨m1, hm1, e1⟩ := hall 1 (by omega)
    obtain ⟨m2, hm2, e2⟩ := hall 2 (by omega)
    have n01 := h.loop (3 * i) (by omega)
    have n12 := h.loop (3 * i + 1) (by omega)
    have n02 := h.loop2 (c := 3 * i) (by omega)
    rw [show nx (3 * i) = 3 * i + 1 by unfold nx; omega] at n01
    rw [show nx (3 * i + 1) = 3 * i + 2 by unfold nx; omega] at n12
    rw [show pv (3 * i) = 3 * i + 2 by unfold pv; omega] at n02
    rw [Nat.add_zero] at e0
    have k01 : m0 ≠ m1 := fun e => n01 (by rw [e0, e1, e])
    have k12 : m1 ≠ m2 := fun e => n12 (by rw [e1, e2, e])
    have k02 : m0 ≠ m2 := fun e => n02 (by rw [e0, e2, e])
    have hm : ∀ m, m < 3 → ∃ k, k < 3 ∧ vt T (3 * i + k) = vx ((x : Int), (y : Int), (z : Int)) m := fun m hm => by
      have : m = m0 ∨ m = m1 ∨ m = m2 := by omega
      rcases this with rfl | rfl | rfl
      · exact ⟨0, by omega, e0⟩
      · exact ⟨1, by omega, e1⟩
      · exact ⟨2, by omega, e2⟩
    obtain ⟨q0, l0, f0⟩ := on_all hm (m := 0) (by omega)
    obtain ⟨q1, l1, f1⟩ := on_all hm (m := 1) (by omega)
    obtain ⟨q2, l2, f2⟩ := on_all hm (m := 2) (by omega)
    have g0 : haB (triAt T i) x = true := haB_of l0 f0
    have g1 : haB (triAt T i) y = true := haB_of l1 f1
    have g2 : haB (triAt T i) z = true := haB_of l2 f2
    unfold onB
    rw [g0, g1, g2]
    rfl
theorem OwnRows.below {w w' : World} {base : Nat} {r : Value} {Ls : List (List Nat)} (h : OwnRows w base r Ls) (hb : Below w.heap.size w w') : OwnRows w' base r Ls := by
  obtain ⟨vs, h1, h2, h3⟩ := h
  exact ⟨vs, h1, own_below h2 hb (Nat.le_refl _), fun i v L e1 e2 => own_below (h3 i v L e1 e2) hb (Nat.le_refl _)⟩
set_option maxRecDepth 100000 in
set_option maxHeartbeats 4000000 in
theorem closes_law (sv : Value) (N : Int) (T : List T3) (w : World) {B : Nat} (hB0 : B ≤ w.heap.size) (hT : Sl 3 RTri w B sv T) (hN : I64 N) :
    Calls Try.prog 9 #[.agg #[.int .i64 N, sv]] w fun e w' => e = .returned (.bool true) ∧ Below w.heap.size w w' := by
  obtain ⟨A, cap, rfl, hcap⟩ := hT.form
  have hb1 := (Below.refl w.heap.size w).alloc (Nat.le_refl _) (.cells #[.int .i64 N, .slice A T.length cap] 24)
  have hbox := Bk.new w 24 [.int .i64 N, .slice A T.length cap]
  have hTA := hT.below keeps_tri (hb1.mono hB0)
  have hbl := hbox.lt
  have c0 := hbox.cell 0
  have c1 := hbox.cell 1
  simp only [List.getElem?_cons_zero, List.getElem?_cons_succ] at c0 c1
  generalize hw0 : w.alloc (.cells #[.int .i64 N, .slice A T.length cap] 24) = w0 at *
  have haw := awake12_calls w0
  have hz0 := hb1.size
  have HhT := Lib.hid hT; have Hhbox := Lib.hid hbox; have HhTA := Lib.hid hTA; have Hhaw := Lib.hid haw; clear hT hbox hTA haw
  go_enter Try.func9, Try.ntmps9
  go_wp2_with fail
  clear hw0
  refine Hhaw.out.mono ?_
  rintro e w1 ⟨rfl, hb2⟩
  have hb3 := below_call hb1 hb2 hb1.size
  have d0 : w1.cell? ⟨w.heap.size, 0, none⟩ = some (.int .i64 N) := (hb2.cell (p := ⟨w.heap.size, 0, none⟩) hbl).trans c0
  have d1 : w1.cell? ⟨w.heap.size, 1, none⟩ = some (.slice A T.length cap) := (hb2.cell (p := ⟨w.heap.size, 1, none⟩) hbl).trans c1
  have hT1 := HhTA.out.below keeps_tri (hb2.mono (by omega))
  have hz1 := hb2.size
  have htb := table12_calls hT1 (by omega) hN
  have HhT1 := Lib.hid hT1; have Hhtb := Lib.hid htb; clear hT1 htb
  go_wp2_with fail
  refine Hhtb.out.mono ?_
  rintro e w2 ⟨⟨tv, B', rfl, hor⟩, hb4⟩
  have hb5 := below_call hb3 hb4 hb3.size
  have hz2 := hb4.size
  have e0 : w2.cell? ⟨w.heap.size, 0, none⟩ = some (.int .i64 N) := (hb4.cell (p := ⟨w.heap.size, 0, none⟩) (by show w.heap.size < _; omega)).trans d0
  have e1 : w2.cell? ⟨w.heap.size, 1, none⟩ = some (.slice A T.length cap) := (hb4.cell (p := ⟨w.heap.size, 1, none⟩) (by show w.heap.size < _; omega)).trans d1
  have hT2 := HhT1.out.below keeps_tri (hb4.mono (by omega))
  have hbw2 : w.heap.size < w2.heap.size := by omega
  have hB2 : B ≤ w2.heap.size := by omega
  clear c0 c1 d0 d1 hb1 hb2 hb3 hb4 hz0 hz1 hz2 hbl
  rcases hor with ⟨h40, hs, htab⟩ | ⟨hno, rfl⟩
  rotate_left 1
  · by_cases h39 : T.length < 40
    · have hns : ¬ Surf N T := fun h => hno ⟨by omega, h⟩
      have hsu := surface9_calls (.slice A T.length cap) N T w2 hB2 hT2 (by omega)
      have h39i : (T.length : Int) < 40 := by omega
      have HhT2 := Lib.hid hT2; have Hhsu := Lib.hid hsu; have Hhns := Lib.hid hns; have Hhno := Lib.hid hno; clear hT2 hsu hns hno
      go_wp2_with fail
      refine Hhsu.out.mono ?_
      rintro e w3 ⟨⟨b, rfl, hb⟩, hb6⟩
      obtain rfl : b = false := by
        cases b with
        | false => rfl
        | true => exact absurd (hb.1 rfl) Hhns.out
      have hb7 := below_call hb5 hb6 hb5.size
      have Hhb := Lib.hid hb; clear hb
      go_wp2_with fail
      go_ret
      exact ⟨rfl, hb7⟩
    · have h3 : 40 ≤ (T.length : Int) := by omega
      clear h39
      have HhT2 := Lib.hid hT2; have Hhno := Lib.hid hno; clear hT2 hno
      go_wp2_with fail
      go_ret
      exact ⟨rfl, hb5⟩
  obtain ⟨g, rfl⟩ : ∃ g, tv = .pointer (some ⟨g, 0, none⟩) := by
    obtain ⟨g, _, _, _, _, _, rfl, _⟩ := htab
    exact ⟨_, rfl⟩
  have hTN : TabN w2 B' (.pointer (some ⟨g, 0, none⟩)) N T := .inl htab
  have hle := hTN.le
  by_cases h39 : T.length < 40
  case neg =>
    have h3 : 40 ≤ (T.length : Int) := by omega
    clear h39
    have HhT2 := Lib.hid hT2; have Hhtab := Lib.hid htab; have HhTN := Lib.hid hTN; have Hhs := Lib.hid hs; clear hT2 htab hTN hs
    go_wp2_with fail
    go_ret
    exact ⟨rfl, hb5⟩
  case pos =>
    have h39i : (T.length : Int) < 40 := by omega
    have hlo := bloops_calls hTN hs
    have hed := fun wz (h9 : Below w2.heap.size w2 wz) => bedges_calls (hTN.below (h9.mono hle) (Nat.le_refl _)) hs
    have hco := fun wz (h9 : Below w2.heap.size w2 wz) (hp : 0 < T.length) => copy12_calls (N := N) (hT2.below keeps_tri (h9.mono hB2)) (by have := h9.size; omega) hp (by omega)
    have hon := fun wz (h9 : Below w2.heap.size w2 wz) x y z => on12_calls (N := N) (hT2.below keeps_tri (h9.mono hB2)) (by have := h9.size; omega) (by omega : T.length ≤ 8192) x y z
    have hho := fun L (hL : L ∈ lps T N N.toNat) (h3 : L.length = 3) => hole_of hs (by omega) hL h3
    have hLl := lps_len T N N.toNat
    have hmax := hs.nmax
    have hn0 := hs.n0
    have hbl : (bedges T).length ≤ 24576 := by have := bord_len T; have := hs.tmax; unfold bedges; rw [List.length_map]; omega
    generalize hLs : lps T N N.toNat = Ls at *
    have HhT2 := Lib.hid hT2; have Hhtab := Lib.hid htab; have HhTN := Lib.hid hTN; have Hhs := Lib.hid hs; have Hhlo := Lib.hid hlo; have Hhed := Lib.hid hed; have Hhco := Lib.hid hco; have Hhon := Lib.hid hon; have Hhho := Lib.hid hho; have HhLs := Lib.hid hLs; clear hT2 htab hTN hs hlo hed hco hon hho hLs
    go_wp2_with fail
    refine Hhlo.out.mono ?_
    rintro e w3 ⟨⟨r3, rfl, hrows⟩, hb6⟩
    have hz3 := hb6.size
    obtain ⟨A3, cap3, rfl, hc3⟩ : ∃ A cap, r3 = .slice A Ls.length cap ∧ Ls.length ≤ cap := by
      obtain ⟨vs, v1, v2, v3⟩ := hrows
      exact own_form v2
    have Hhrows := Lib.hid hrows; clear hrows
    go_wp2_with fail
    go_loopw [5] (fun i wr => ∃ k : Nat, k ≤ Ls.length ∧ i = .int .i64 k ∧ Below w3.heap.size w3 wr) (fun i _ => Ls.length - (intOf i).toNat)
    case atStart => exact ⟨0, by omega, rfl, Below.refl _ _⟩
    case round =>
      obtain ⟨k, hk, rfl, hbel⟩ := hrel
      obtain ⟨w4, hw4⟩ : ∃ w4, w4 = wr := ⟨_, rfl⟩
      subst hw4
      have hz4 := hbel.size
      have hb24 := hb6.trans (hbel.mono hz3)
      have p0 : w4.cell? ⟨w.heap.size, 0, none⟩ = some (.int .i64 N) := (hb24.cell (p := ⟨w.heap.size, 0, none⟩) hbw2).trans e0
      have p1 : w4.cell? ⟨w.heap.size, 1, none⟩ = some (.slice A T.length cap) := (hb24.cell (p := ⟨w.heap.size, 1, none⟩) hbw2).trans e1
      by_cases hkl : k < Ls.length
      · obtain ⟨gR, v, rfl, hcv, hgR, hgR2, hrow⟩ := (Hhrows.out.below hbel).at_ rfl hkl
        have hL9 : Ls[k] ∈ Ls := List.getElem_mem hkl
        generalize Ls[k] = L at *
        obtain ⟨A5, cap5, rfl, hc5⟩ := own_form hrow
        by_cases hL3 : L.length = 3
        case neg =>
          have hLn : ((L.length : Int) != 3) = true := by rw [bne_iff_ne]; omega
          have Hhrow := Lib.hid hrow; have HhL9 := Lib.hid hL9; have HhL3 := Lib.hid hL3; clear hrow hL9 hL3
          go_wp2_with fail
          exact ⟨⟨k + 1, by omega, by simp, hbel⟩, by simp [intOf]; omega⟩
        case pos =>
          obtain ⟨x, y, z, rfl, hTp, hhole⟩ := Hhho.out L hL9 hL3
          have hcp := Hhco.out w4 hb24 hTp
          obtain ⟨g5, rfl⟩ := own_addr hrow (by simp)
          obtain ⟨cx, hg5, hg5b⟩ := own_cell (i := 0) (u := .int .i64 (x : Int)) hrow rfl
          obtain ⟨cy, -, -⟩ := own_cell (i := 1) (u := .int .i64 (y : Int)) hrow rfl
          obtain ⟨cz, -, -⟩ := own_cell (i := 2) (u := .int .i64 (z : Int)) hrow rfl
          simp only [List.length_cons, List.length_nil, Nat.reduceAdd] at hc5 ⊢
          have Hhrow := Lib.hid hrow; have HhL9 := Lib.hid hL9; have HhL3 := Lib.hid hL3; have Hhhole := Lib.hid hhole; have Hhcp := Lib.hid hcp; clear hrow hL9 hL3 hhole hcp
          go_wp2_with fail
          refine Hhcp.out.mono ?_
          rintro e w5 ⟨⟨r5, rfl, hown5⟩, hb7⟩
          obtain ⟨A7, cap7, rfl, hc7⟩ := own_form hown5
          have hz5 := hb7.size
          have hbox := Bk.new w5 24 [.int .i64 N, .slice A7 T.length cap7]
          have hd6 : Below w4.heap.size w4 (w5.alloc (.cells #[.int .i64 N, .slice A7 T.length cap7] 24)) := hb7.alloc hz5 _
          have hown6 := hown5.alloc (.cells #[.int .i64 N, .slice A7 T.length cap7] 24)
          have hsz6 : w5.heap.size < (w5.alloc (.cells #[.int .i64 N, .slice A7 T.length cap7] 24)).heap.size := by simp
          have Hhown5 := Lib.hid hown5; clear hown5
          go_wp2_with fail
          generalize hw6 : w5.alloc (.cells #[.int .i64 N, .slice A7 T.length cap7] 24) = w6 at *
          have c0 : w6.cell? ⟨w5.heap.size, 0, none⟩ = some (.int .i64 N) := hbox.cell 0
          have c1 : w6.cell? ⟨w5.heap.size, 1, none⟩ = some (.slice A7 T.length cap7) := hbox.cell 1
          have k0 := (hd6.cell (p := ⟨gR, k, none⟩) hgR2).trans hcv
          have kx := (hd6.cell (p := ⟨g5, 0, none⟩) hg5b).trans cx
          have ky := (hd6.cell (p := ⟨g5, 1, none⟩) hg5b).trans cy
          have kz := (hd6.cell (p := ⟨g5, 2, none⟩) hg5b).trans cz
          have hz6 := hd6.size
          clear hw6
          have Hhbox := Lib.hid hbox; have Hhown6 := Lib.hid hown6; clear hbox hown6
          refine Go.Canon.wp_region_last 24 [1] (fun b => b = w5.heap.size) (.seg [0,1,2,3,4,5,6,7,8,9,10,11,12,13,14,15,16,17,18,19,20] (.alt 21 (.alt 22 (.seg [23] (.alt 24 .fin .no)) .no) .no)) mixed (by kernel_rfl) ?_
          refine Go.Canon.trm_seg ?_
          simp only [List.map_cons, List.map_nil, List.getD_cons_zero, List.getD_cons_succ]
          go_wp2_with fail
          refine Go.Canon.trm_to (Go.Canon.trm_one ?_)
          simp only [List.getD_cons_zero, List.getD_cons_succ]
          go_wp2_with fail
          refine Go.Canon.trm_end (fun b h9 => by subst h9; exact Below.heap_alloc w6 _ _ Hhbox.out.lt) (Go.Canon.trm_one ?_)
          simp only [List.getD_cons_zero, List.getD_cons_succ]
          refine append_block _ rfl _ _ 22 rfl w4.heap.size infoTri9 Try.underlying22 rfl (by decide) _ T.length _ rfl ((own_below Hhown6.out (Below.refl _ w6).drew (Nat.le_refl _)).alloc _) w6.heap.size [.int .i64 (x : Int), .int .i64 (y : Int), .int .i64 (z : Int)] rfl (Bk.new w6.drew 55 _) rfl (by simp [Value.oneCell']) (by omega) (by decide) (by simp only [World.size_alloc, World.size_drew]; omega) ?_
          intro v' w7 hown7 hb8 hgrow hor
          obtain ⟨g7, cap9, rfl⟩ := ownsRow_succ hown7
          have hl5 : some w5.heap.size ≠ (Value.slice A7 T.length cap7).ownBlock := fun e => by have := (Hhown5.out.lt _ e.symm).2; omega
          have hl6 : (Value.slice (some ⟨g7, 0, none⟩) (T.length + 1) cap9).ownBlock ≠ some w5.heap.size := fun e => by
            rcases hor with h9 | h9
            · exact hl5 (e.symm.trans h9)
            · rw [e] at h9
              have := Option.some.inj h9
              simp only [World.size_alloc, World.size_drew] at this
              omega
          have b7 := (Hhbox.out.drew.alloc (.cells #[.int .i64 (x : Int), .int .i64 (y : Int), .int .i64 (z : Int)] 55)).grown hgrow hl5
          have hke : Go.Canon.KeepU (fun b => b = w5.heap.size) w6.drew w7 := fun b h9 => by subst h9; exact b7.trans Hhbox.out.symm
          have q1 := b7.cell 1
          have q2 := b7.frozen 1
          have hz7 := hb8.size
          simp only [World.size_alloc, World.size_drew] at hz7
          have b8 := b7.set 1 (.slice (some ⟨g7, 0, none⟩) (T.length + 1) cap9)
          have hown8 := hown7.kept (row := some w5.heap.size) (w' := w7.setCell ⟨w5.heap.size, 1, none⟩ (.slice (some ⟨g7, 0, none⟩) (T.length + 1) cap9)) ⟨rfl, rfl, rfl, (KeepsWalks.setCell w7 _ _).size, fun b _ hb => Below.heap_setCell _ _ _ b (fun e => hb (by rw [e]))⟩ (.inr hl6)
          have hd8 : Below w4.heap.size w4 (w7.setCell ⟨w5.heap.size, 1, none⟩ (.slice (some ⟨g7, 0, none⟩) (T.length + 1) cap9)) := ((hd6.drew.alloc (by simp only [World.size_drew]; omega) (.cells #[.int .i64 (x : Int), .int .i64 (y : Int), .int .i64 (z : Int)] 55)).trans hb8).setCell (p := ⟨w5.heap.size, 1, none⟩) hz5 (.slice (some ⟨g7, 0, none⟩) (T.length + 1) cap9)
          have Hhown7 := Lib.hid hown7; have Hb7 := Lib.hid b7; have Hb8 := Lib.hid b8; have Hhown8 := Lib.hid hown8; have Hhl5 := Lib.hid hl5; have Hhl6 := Lib.hid hl6; have Hhgrow := Lib.hid hgrow; have Hhor := Lib.hid hor; clear hown7 b7 b8 hown8 hl5 hl6 hgrow hor
          refine Go.Canon.trm_end hke (Go.Canon.trm_seg ?_)
          simp only [List.map_cons, List.map_nil, List.getD_cons_zero, List.getD_cons_succ]
          go_wp2_with fail
          refine Go.Canon.trm_to (Go.Canon.trm_one ?_)
          simp only [List.getD_cons_zero, List.getD_cons_succ]
          go_wp2_with fail
          refine Go.Canon.trm_last (Go.Canon.trm_fin (by rfl) (List.forall_mem_cons.2 ⟨.inl ⟨_, rfl, rfl, by rw [World.cell?_drew, c1]; rfl⟩, fun _ h => by cases h⟩) ?_)
          generalize hw8 : w7.setCell ⟨w5.heap.size, 1, none⟩ (.slice (some ⟨g7, 0, none⟩) (T.length + 1) cap9) = w8 at *
          have r0 := (hd8.cell (p := ⟨gR, k, none⟩) hgR2).trans hcv
          have rx := (hd8.cell (p := ⟨g5, 0, none⟩) hg5b).trans cx
          have ry := (hd8.cell (p := ⟨g5, 1, none⟩) hg5b).trans cy
          have rz := (hd8.cell (p := ⟨g5, 2, none⟩) hg5b).trans cz
          have hb28 := hb24.trans (hd8.mono (by omega))
          have s0 : w8.cell? ⟨w.heap.size, 0, none⟩ = some (.int .i64 N) := (hb28.cell (p := ⟨w.heap.size, 0, none⟩) hbw2).trans e0
          have s1 : w8.cell? ⟨w.heap.size, 1, none⟩ = some (.slice A T.length cap) := (hb28.cell (p := ⟨w.heap.size, 1, none⟩) hbw2).trans e1
          have hon8 := Hhon.out w8.drew hb28.drew (x : Int) (y : Int) (z : Int)
          clear hw8
          have Hhon8 := Lib.hid hon8; clear hon8
          go_wp2_with fail
          refine Go.Canon.wp_region_text mixed (by kernel_rfl) ?_
          go_wp2_with fail
          refine Hhon8.out.mono ?_
          rintro e w9 ⟨⟨bo, rfl, hbo⟩, hb10⟩
          have hd9 := hd8.drew.trans (hb10.mono hd8.drew.size)
          have hb39 := hbel.trans (hd9.mono hz4)
          cases bo with
          | true =>
            have Hhbo := Lib.hid hbo; clear hbo
            go_wp2_with fail
            refine Go.Canon.chk (by rfl) ?_
            go_wp2_with fail
            exact ⟨⟨k + 1, by omega, by simp, hb39⟩, by simp [intOf]; omega⟩
          | false =>
            have ho := Hhhole.out (fun h9 => by have := hbo.2 h9; cases this)
            have hb9 : Bk w9 w5.heap.size 24 [.int .i64 N, .slice (some ⟨g7, 0, none⟩) (T.length + 1) cap9] := (Hb8.out.drew).below hb10 Hb8.out.lt
            have m0 : w9.cell? ⟨w5.heap.size, 0, none⟩ = some (.int .i64 N) := hb9.cell 0
            have m1 : w9.cell? ⟨w5.heap.size, 1, none⟩ = some (.slice (some ⟨g7, 0, none⟩) (T.length + 1) cap9) := hb9.cell 1
            have hown9 := own_below (own_below Hhown8.out (Below.refl _ w8).drew (Nat.le_refl _)) hb10 (Nat.le_refl _)
            have hvt : triVals T ++ [.int .i64 (x : Int), .int .i64 (y : Int), .int .i64 (z : Int)] = triVals (T ++ [((x : Int), (y : Int), (z : Int))]) := (triVals_snoc T ((x : Int), (y : Int), (z : Int))).symm
            have htl : (T ++ [((x : Int), (y : Int), (z : Int))]).length = T.length + 1 := by simp
            rw [hvt, ← htl] at hown9
            have hsl9 := sl_own_tris hown9
            rw [htl] at hsl9
            have htb9 := table12_calls (N := N) hsl9 (Nat.le_refl _) hN
            have hlps := ho.loops
            have hedg := ho.edges
            rw [HhLs.out] at hlps
            have hX := ho.closed
            generalize T ++ [((x : Int), (y : Int), (z : Int))] = T9 at *
            have hb29 := hb24.trans (hd9.mono (by omega))
            have Hhbo := Lib.hid hbo; have Hho := Lib.hid ho; have Hhb9 := Lib.hid hb9; have Hhown9 := Lib.hid hown9; have Hhvt := Lib.hid hvt; have Hhsl9 := Lib.hid hsl9; have Hhtb9 := Lib.hid htb9; have Hhlps := Lib.hid hlps; have Hhedg := Lib.hid hedg; have HhX := Lib.hid hX; have Hhtl := Lib.hid htl; clear hbo ho hb9 hown9 hvt hsl9 htb9 hlps hedg hX htl
            go_wp2_with fail
            refine Go.Canon.chk (by rfl) ?_
            go_wp2_with fail
            refine Hhtb9.out.mono ?_
            rintro e w10 ⟨⟨tv9, B9, rfl, hor9⟩, hb11⟩
            rcases hor9 with ⟨_, _, htab9⟩ | ⟨hno9, -⟩
            case inr => exact absurd ⟨by rw [Hhtl.out]; omega, HhX.out⟩ hno9
            obtain ⟨g9, rfl⟩ : ∃ g, tv9 = .pointer (some ⟨g, 0, none⟩) := by
              obtain ⟨g, _, _, _, _, _, rfl, _⟩ := htab9
              exact ⟨_, rfl⟩
            have hTN9 : TabN w10 B9 (.pointer (some ⟨g9, 0, none⟩)) N T9 := .inl htab9
            have hle9 := hTN9.le
            have hlo9 := bloops_calls hTN9 HhX.out
            have hed9 := fun wz (h9 : Below w10.heap.size w10 wz) => bedges_calls (hTN9.below (h9.mono hle9) (Nat.le_refl _)) HhX.out
            have hb3a := hb39.trans (hb11.mono hb39.size)
            have hb2a := hb29.trans (hb11.mono hb29.size)
            have Hhtab9 := Lib.hid htab9; have HhTN9 := Lib.hid hTN9; have Hhlo9 := Lib.hid hlo9; have Hhed9 := Lib.hid hed9; clear htab9 hTN9 hlo9 hed9
            go_wp2_with fail
            refine Hhlo9.out.mono ?_
            rintro e w11 ⟨⟨r11, rfl, hrows11⟩, hb12⟩
            obtain ⟨A11, cap11, rfl, -⟩ : ∃ A cap, r11 = .slice A (lps T9 N N.toNat).length cap ∧ (lps T9 N N.toNat).length ≤ cap := by
              obtain ⟨vs, v1, v2, v3⟩ := hrows11
              exact own_form v2
            have hb3b := hb3a.trans (hb12.mono hb3a.size)
            have hb2b := hb2a.trans (hb12.mono hb2a.size)
            have hl9 := Hhlps.out
            have hl9i : ((lps T9 N N.toNat).length : Int) = (Ls.length : Int) - 1 := by omega
            have hed9' := Hhed9.out w11 hb12
            clear hl9
            generalize (lps T9 N N.toNat).length = ll at *
            subst_vars
            have Hhrows11 := Lib.hid hrows11; have Hhed9' := Lib.hid hed9'; clear hrows11 hed9'
            go_wp2_with fail
            refine Hhed9'.out.mono ?_
            rintro e w12 ⟨⟨r12, rfl, hown12⟩, hb13⟩
            obtain ⟨A12, cap12, rfl, -⟩ := own_form hown12
            have hb3c := hb3b.trans (hb13.mono hb3b.size)
            have hb2c := hb2b.trans (hb13.mono hb2b.size)
            have hedt := Hhed.out w12 hb2c
            have he9 := Hhedg.out
            have he9i : ((bedges T9).length : Int) = ((bedges T).length : Int) - 3 := by omega
            clear he9
            generalize (bedges T9).length = le9 at *
            have Hhown12 := Lib.hid hown12; have Hhedt := Lib.hid hedt; clear hown12 hedt
            go_wp2_with fail
            refine Hhedt.out.mono ?_
            rintro e w13 ⟨⟨r13, rfl, hown13⟩, hb14⟩
            obtain ⟨A13, cap13, rfl, -⟩ := own_form hown13
            have hb3d := hb3c.trans (hb14.mono hb3c.size)
            have Hhown13 := Lib.hid hown13; clear hown13
            go_wp2_with fail
            exact ⟨⟨k + 1, by omega, by simp, hb3d⟩, by simp [intOf]; omega⟩
      · obtain rfl : k = Ls.length := by omega
        have hfi := hb5.trans (hb24.mono hb5.size)
        go_wp2_with fail
        go_ret
        exact ⟨rfl, hfi⟩
end Go.Proofs.Ytckkpmjkajkkmaa
