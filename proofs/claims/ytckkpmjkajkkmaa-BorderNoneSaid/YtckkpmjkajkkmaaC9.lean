/- Walks: certify's pinch. -/
import Derived.Test.YtckkpmjkajkkmaaC8
namespace Go.Mesh
/-- The triangles at a vertex, rising. -/
def trisAt (T : List T3) (u : Int) : List Nat := (List.range T.length).filter (hasB T u)
def PinchOk (T : List T3) (u : Int) : Prop := ∃ t0, (trisAt T u).head? = some t0 ∧ Conn T u (trisAt T u) t0
theorem trisAt_nodup (T : List T3) (u : Int) : (trisAt T u).Nodup := (List.nodup_range).filter _
theorem trisAt_lt (T : List T3) (u : Int) : ∀ i ∈ trisAt T u, i < T.length := fun _ hi => List.mem_range.1 (List.mem_filter.1 hi).1
theorem trisAt_ne {T : List T3} {u : Int} (h : ∃ t ∈ T, HasV t u) : ∃ t0, (trisAt T u).head? = some t0 := by
  obtain ⟨t, ht, hu⟩ := h
  obtain ⟨i, hi, rfl⟩ := List.getElem_of_mem ht
  have hm : i ∈ trisAt T u := List.mem_filter.2 ⟨List.mem_range.2 hi, by unfold hasB triAt; rw [List.getD_eq_getElem?_getD, List.getElem?_eq_getElem hi]; exact decide_eq_true hu⟩
  cases hl : trisAt T u with
  | nil => rw [hl] at hm; cases hm
  | cons a l => exact ⟨a, rfl⟩
end Go.Mesh
namespace Go.Proofs.Ytckkpmjkajkkmaa
open Go Go.RowKit Go.Words Go.Mesh

theorem info_rowi : (Try.prog.info? 28).map (fun i => (i.zero, i.size, i.bytes)) = some (some (.slice none 0 0), 1, 24) := by kernel_rfl
/-- Rows by number: block g holds them; row u is L u. -/
structure RowsAt (w : World) (g base n : Nat) (vs : List Value) (Ls : List (List Nat)) (row : Nat → List Nat) : Prop where
  bk : Bk w g 28 vs
  fam : Fam w base 3 vs Ls
  len : Ls.length = n
  is : ∀ u (h : u < Ls.length), Ls[u] = row u

set_option maxRecDepth 20000 in
set_option maxHeartbeats 4000000 in
theorem pinch_calls (v : Value) (n : Nat) (T : List T3) (w : World) {B : Nat} (hB0 : B ≤ w.heap.size) (h : Sl 3 RTri w B v T) (hp : Plain n T) (hth : ∀ t ∈ T, Three t) (hus : ∀ u : Nat, u < n → ∃ t ∈ T, HasV t u) :
    Calls Try.prog 97 #[.agg #[.int .i64 (n : Int), v]] w fun e w' => (∃ v', e = .returned v' ∧ Wits w' w.heap.size v' 6 (∀ u : Nat, u < n → PinchOk T u)) ∧ Below w.heap.size w w' := by
  obtain ⟨A, cap, rfl, hcap⟩ := h.form
  have hp0 := hp
  obtain ⟨p1, p2, p3, p4⟩ := hp
  have hb1 := (Below.refl w.heap.size w).alloc (Nat.le_refl _) (.cells #[.int .i64 n, .slice A T.length cap] 24)
  have hm1 := run_make_rep (P := Try.prog) 44 Try.underlying44 info_rowi rfl n (by omega) (by omega)
  have hra : RowsAt ((w.alloc (.cells #[.int .i64 n, .slice A T.length cap] 24)).alloc (.cells (List.replicate n (.slice none 0 0)).toArray 28)) (w.heap.size + 1) (w.heap.size + 2) n (List.replicate n (.slice none 0 0)) (List.replicate n []) (fun u => (List.range 0).filter (hasB T u)) :=
    ⟨Bk.new' _ _ (by simp), Fam.nils _ _ _ _, by simp, fun u h => by simp⟩
  have hbox := (Bk.new w 24 [.int .i64 n, .slice A T.length cap]).alloc (.cells (List.replicate n (.slice none 0 0)).toArray 28)
  have hb2 := hb1.alloc (by simp) (.cells (List.replicate n (.slice none 0 0)).toArray 28)
  have Hh := Lib.hid h; clear h; have Hhp0 := Lib.hid hp0; clear hp0; have Hp4 := Lib.hid p4; clear p4; have Hhth := Lib.hid hth; clear hth; have Hhus := Lib.hid hus; clear hus; have Hhra := Lib.hid hra; clear hra; have Hhbox := Lib.hid hbox; clear hbox
  go_enter Try.func97, Try.ntmps97
  go_wp2
  clear hm1
  go_loopw [17] (fun i wr => ∃ (k : Nat) (vs : List Value) (Ls : List (List Nat)), k ≤ T.length ∧ i = .int .i64 k ∧ RowsAt wr (w.heap.size + 1) (w.heap.size + 2) n vs Ls (fun u => (List.range k).filter (hasB T u)) ∧ Bk wr w.heap.size 24 [.int .i64 n, .slice A T.length cap] ∧ Below w.heap.size w wr)
    (fun i _ => T.length - (intOf i).toNat)
  case atStart => exact ⟨0, _, _, by omega, rfl, Hhra.out, Hhbox.out, hb2⟩
  case round =>
    obtain ⟨k, vs, Ls, hk, rfl, hra, hbox, hbel⟩ := hrel
    have hz := hbel.size
    have hz2 : w.heap.size + 1 < wr.heap.size := hra.bk.lt
    by_cases hlt : k < T.length
    · obtain ⟨b, o, hA, hb, c1, c2, c3⟩ := (Hh.out.below keeps_tri (hbel.mono hB0)).tri_at hlt
      subst hA
      have hInR := Hp4.out _ (List.getElem_mem hlt)
      have hThree := Hhth.out _ (List.getElem_mem hlt)
      have hat : triAt T k = T[k] := by unfold triAt; rw [List.getD_eq_getElem?_getD, List.getElem?_eq_getElem hlt]; rfl
      generalize hx : T[k] = x at *
      have hix := fun j hj w => triJ x j hj w
      have hraA : RowsAt (wr.alloc (.cells #[.int .i64 x.1, .int .i64 x.2.1, .int .i64 x.2.2] 55)) (w.heap.size + 1) (w.heap.size + 2) n vs Ls (fun u => (List.range k).filter (hasB T u) ++ if firstV x 0 u then [k] else []) :=
        ⟨hra.bk.alloc _, hra.fam.below ((Below.refl _ _).alloc (Nat.le_refl _) _) (Nat.le_refl _), hra.len, fun u hu => by rw [hra.is u hu, firstV_zero]; simp⟩
      have hboxA := hbox.alloc (.cells #[.int .i64 x.1, .int .i64 x.2.1, .int .i64 x.2.2] 55)
      have hbA := hbel.alloc hz (.cells #[.int .i64 x.1, .int .i64 x.2.1, .int .i64 x.2.2] 55)
      have hbw : b < wr.heap.size := by omega
      have Hhra := Lib.hid hra; clear hra; have Hhbox := Lib.hid hbox; clear hbox; have HhInR := Lib.hid hInR; clear hInR; have HhThree := Lib.hid hThree; clear hThree; have Hhat := Lib.hid hat; clear hat; have Hhx := Lib.hid hx; clear hx; have Hhix := Lib.hid hix; clear hix; have HhraA := Lib.hid hraA; clear hraA; have HhboxA := Lib.hid hboxA; clear hboxA
      go_wp2
      clear c1 c2 c3
      go_loopw [23] (fun jv wi => ∃ (j : Nat) (vs : List Value) (Ls : List (List Nat)), j ≤ 3 ∧ jv = .int .i64 j ∧ RowsAt wi (w.heap.size + 1) (w.heap.size + 2) n vs Ls (fun u => (List.range k).filter (hasB T u) ++ if firstV x j u then [k] else []) ∧ Bk wi w.heap.size 24 [.int .i64 n, .slice (some ⟨b, o, none⟩) T.length cap] ∧ Below w.heap.size w wi)
        (fun jv _ => 3 - (intOf jv).toNat)
      case atStart => exact ⟨0, vs, Ls, by omega, rfl, HhraA.out, HhboxA.out, hbA⟩
      case round =>
        obtain ⟨j, vs, Ls, hj, rfl, hra, hbox, hbel⟩ := hrel
        have hz := hbel.size
        have hz2 : w.heap.size + 1 < wr.heap.size := hra.bk.lt
        by_cases hltj : j < 3
        · have ix := Hhix.out j hltj
          obtain ⟨hok, hu1, hu2⟩ := vx_I64 HhInR.out p2 j
          have hnew := firstV_new HhThree.out hltj
          have hsucc := fun u => firstV_succ x j u
          generalize hue : vx x j = u0 at *
          obtain ⟨a, rfl⟩ := Int.eq_ofNat_of_zero_le hu1
          have han : a < Ls.length := by rw [hra.len]; omega
          have hav : a < vs.length := by rw [hra.fam.len]; exact han
          have hrow := hra.fam.own a hav han
          obtain ⟨Av, capv, hv, hcapv⟩ := own_form hrow
          have hgl : Ls[a] = (List.range k).filter (hasB T a) := by rw [hra.is a han, hnew]; simp
          have hgl2 : Ls[a].length ≤ 8192 := by rw [hgl]; exact Nat.le_trans (List.length_filter_le _ _) (by simp; omega)
          have d1 : wr.cell? ⟨w.heap.size + 1, a, none⟩ = some vs[a] := by rw [hra.bk.cell, List.getElem?_eq_getElem hav]
          have f1 := hra.bk.frozen
          generalize hg : Ls[a] = grp at *
          rw [hv] at d1 hrow
          have hrowA := hrow.alloc (.cells #[.int .i64 k] 3)
          have hbA := hbel.alloc hz (.cells #[.int .i64 k] 3)
          have Hhra := Lib.hid hra; clear hra; have Hhbox := Lib.hid hbox; clear hbox; have Hhok := Lib.hid hok; clear hok; have Hhnew := Lib.hid hnew; clear hnew; have Hhsucc := Lib.hid hsucc; clear hsucc; have Hhue := Lib.hid hue; clear hue; have Hhrow := Lib.hid hrow; clear hrow; have HhrowA := Lib.hid hrowA; clear hrowA; have Hhv := Lib.hid hv; clear hv; have Hhg := Lib.hid hg; clear hg; have Hhgl := Lib.hid hgl; clear hgl
          go_wp2_with (at_builtin; refine append_block _ rfl (.tmp 31) (.tmp 33) 28 rfl (w.heap.size + 2) info_int Try.underlying28 rfl (by omega) _ grp.length (grp.map encI) rfl HhrowA.out wr.heap.size [.int .i64 k] rfl (Bk.new _ _ _) rfl (by simp [Value.oneCell']) (by omega) (by omega) (by simp; omega) ?_; intro v1 w3 hown3 hb9 hgr3 hat3; obtain ⟨Av1, capv1, rfl, hcapv1⟩ := own_form hown3; have bk3 := (Hhra.out.bk.alloc (.cells #[.int .i64 k] 3)).kept_own HhrowA.out (by decide) hgr3; have d3 : w3.cell? ⟨w.heap.size + 1, a, none⟩ = some vs[a] := (by rw [bk3.cell, List.getElem?_eq_getElem hav]); have f3 := bk3.frozen; have Hhown3 := Lib.hid hown3; clear hown3; have Hhgr3 := Lib.hid hgr3; clear hgr3; have Hhat3 := Lib.hid hat3; clear hat3; have Hbk3 := Lib.hid bk3; clear bk3)
          have hL9 : (grp ++ [k]).map encI = grp.map encI ++ [.int .i64 (k : Int)] := by rw [List.map_append]; rfl
          have famA := Hhra.out.fam.below ((Below.refl _ _).alloc (Nat.le_refl _) (.cells #[.int .i64 k] 3)) (Nat.le_refl _)
          have fam3 := famA.set (i := a) hav (v' := .slice Av1 (grp.length + 1) capv1) (L' := grp ++ [k]) (by rw [hL9, List.length_append]; exact Hhown3.out) (by rw [Hhv.out]; exact Hhgr3.out) (by
            rw [Hhv.out]
            exact Hhat3.out.imp id fun h9 => ⟨_, h9, Nat.le_refl _⟩)
          have bk4 := Hbk3.out.set a (.slice Av1 (grp.length + 1) capv1)
          have box3 := (Hhbox.out.alloc (.cells #[.int .i64 k] 3)).kept_own HhrowA.out (by decide) Hhgr3.out
          have fam4 := fam3.kept (w' := w3.setCell ⟨w.heap.size + 1, a, none⟩ (.slice Av1 (grp.length + 1) capv1)) (row := some (w.heap.size + 1)) ⟨rfl, rfl, rfl, by simp, fun i hi hne => Below.heap_setCell _ _ _ _ (fun e => hne (by rw [e]))⟩ (fam3.not_type Hbk3.out (by decide))
          refine ⟨⟨j + 1, _, _, by omega, by simp, ⟨bk4, fam4, by rw [List.length_set]; exact Hhra.out.len, fun u hu => ?_⟩, box3.far (by simp) _, ((hbA.trans (hb9.mono (by omega))).setCell (by simp) _)⟩, by simp [intOf]; omega⟩
          simp only [List.length_set] at hu
          rw [List.getElem_set]
          by_cases hau : a = u
          · subst hau
            rw [if_pos rfl, Hhgl.out, Hhsucc.out]
            simp
          · rw [if_neg hau, Hhra.out.is u hu, Hhsucc.out]
            have : ((a : Int) == (u : Int)) = false := by simpa using fun e : (a : Int) = u => hau (by omega)
            rw [this, Bool.or_false]
        · have hj3 : j = 3 := by omega
          subst hj3
          have hra2 : RowsAt wr (w.heap.size + 1) (w.heap.size + 2) n vs Ls (fun u => (List.range (k + 1)).filter (hasB T u)) :=
            ⟨hra.bk, hra.fam, hra.len, fun u hu => by
              rw [hra.is u hu, List.range_succ, List.filter_append, firstV_three]
              congr 1
              have : hasB T u k = decide (HasV x u) := by unfold hasB; rw [Hhat.out]
              rw [List.filter_cons, this]
              simp⟩
          have Hhra := Lib.hid hra; clear hra; have Hhra2 := Lib.hid hra2; clear hra2; have Hhbox := Lib.hid hbox; clear hbox
          go_wp2
          exact ⟨⟨k + 1, vs, Ls, by omega, by simp, Hhra2.out, Hhbox.out, hbel⟩, by simp [intOf]; omega⟩
    · have hkl : k = T.length := by omega
      subst hkl
      have hvl : vs.length = n := by rw [hra.fam.len, hra.len]
      have Hhra := Lib.hid hra; clear hra; have Hhbox := Lib.hid hbox; clear hbox
      go_wp2
      have HX : True := trivial
      go_loopw [8, 40] (fun l i wi => ∃ (u : Nat) (L : List T3), u ≤ n ∧ i = .int .i64 u ∧ wi.ownsRow (w.heap.size + 2) 61 3 l L.length (flat3 L) ∧ (L = [] ↔ ∀ a : Nat, a < u → PinchOk T a) ∧ (∀ x ∈ L, x.1 = 6) ∧ L.length ≤ u ∧
          RowsAt wi (w.heap.size + 1) (w.heap.size + 2) n vs Ls (fun u => trisAt T u) ∧ Bk wi w.heap.size 24 [.int .i64 n, .slice A T.length cap] ∧ Below w.heap.size w wi)
        (fun _ i _ => n - (intOf i).toNat)
      case atStart => exact ⟨0, [], by omega, rfl, World.ownsRow_nil _ _ _ _, by simp, by simp, by simp, Hhra.out, Hhbox.out, hbel⟩
      case round =>
        obtain ⟨u, L, hu, rfl, hown, hL, hkind, hll, hra, hbox, hbel⟩ := hrel
        have hz := hbel.size
        have hz2 : w.heap.size + 1 < wr.heap.size := hra.bk.lt
        obtain ⟨A5, cap5, rfl, hcap5⟩ := own_form hown
        by_cases hltu : u < n
        · have hul : u < Ls.length := by rw [hra.len]; exact hltu
          have huv : u < vs.length := by omega
          have hrow := hra.fam.own u huv hul
          rw [hra.is u hul] at hrow
          obtain ⟨Av, capv, hv, hcapv⟩ := own_form hrow
          have d1 : wr.cell? ⟨w.heap.size + 1, u, none⟩ = some vs[u] := by rw [hra.bk.cell, List.getElem?_eq_getElem huv]
          rw [hv] at d1 hrow
          have e0 : wr.cell? ⟨w.heap.size, 0, none⟩ = some (.int .i64 n) := hbox.cell 0
          have e1 : wr.cell? ⟨w.heap.size, 1, none⟩ = some (.slice A T.length cap) := hbox.cell 1
          obtain ⟨t0, ht0⟩ := trisAt_ne (Hhus.out u hltu)
          have hst : (∀ a : Nat, a < u + 1 → PinchOk T a) ↔ (∀ a : Nat, a < u → PinchOk T a) ∧ PinchOk T u :=
            ⟨fun h9 => ⟨fun a ha => h9 a (by omega), h9 u (by omega)⟩, fun h9 a ha => if he : a = u then he ▸ h9.2 else h9.1 a (by omega)⟩
          have hpo : PinchOk T u ↔ Conn T u (trisAt T u) t0 := ⟨fun ⟨t1, h8, h9⟩ => by rw [ht0] at h8; injection h8 with h8; subst h8; exact h9, fun h9 => ⟨t0, ht0, h9⟩⟩
          have hrs := ints_own hrow
          have Hhown := Lib.hid hown; clear hown; have HhL := Lib.hid hL; clear hL; have Hhkind := Lib.hid hkind; clear hkind; have Hhra := Lib.hid hra; clear hra; have Hhbox := Lib.hid hbox; clear hbox; have Hhrow := Lib.hid hrow; clear hrow; have Hhst := Lib.hid hst; clear hst; have Hhpo := Lib.hid hpo; clear hpo; have Hht0 := Lib.hid ht0; clear ht0; have Hhrs := Lib.hid hrs; clear hrs; have Hhv := Lib.hid hv; clear hv
          go_wp2_with fail
          refine (together_calls _ _ n u T (trisAt T u) t0 _ (Nat.le_refl _) ((Hh.out.below keeps_tri (hbel.mono hB0)).keep keeps_tri (Below.refl _ _) (by omega)) Hhrs.out Hhp0.out Hhth.out (trisAt_nodup T u) (trisAt_lt T u) (I64.nat (by omega)) Hht0.out).mono ?_
          rintro e w1 ⟨⟨bb, rfl, hbb⟩, hb9⟩
          have hbel1 := below_call hbel hb9 hz
          have hz3 := hb9.size
          have own1 := own_below Hhown.out hb9 (Nat.le_refl _)
          have ra1 : RowsAt w1 (w.heap.size + 1) (w.heap.size + 2) n vs Ls (fun u => trisAt T u) := ⟨Hhra.out.bk.below hb9 (by omega), Hhra.out.fam.below hb9 (Nat.le_refl _), Hhra.out.len, Hhra.out.is⟩
          have box1 := Hhbox.out.below hb9 (by omega)
          cases bb
          · have bad : L ++ [(6, (u : Int), 0)] = [] ↔ ∀ a : Nat, a < u + 1 → PinchOk T a := ⟨fun h9 => by simp at h9, fun h9 => by have := hbb.2 (Hhpo.out.1 (Hhst.out.1 h9).2); cases this⟩
            have kinds : ∀ x ∈ L ++ [(6, (u : Int), 0)], x.1 = 6 := by
              intro x hx
              rcases List.mem_append.1 hx with h9 | h9
              · exact Hhkind.out x h9
              · have : x = (6, (u : Int), 0) := by simpa using h9
                rw [this]
            have ownA := own1.alloc (.cells #[.int .i64 6, .int .i64 u, .int .i64 0] 61)
            have hbA := hbel1.alloc hbel1.size (.cells #[.int .i64 6, .int .i64 u, .int .i64 0] 61)
            have Hown1 := Lib.hid own1; clear own1; have Hra1 := Lib.hid ra1; clear ra1; have Hbox1 := Lib.hid box1; clear box1; have Hbad := Lib.hid bad; clear bad; have Hkinds := Lib.hid kinds; clear kinds; have HownA := Lib.hid ownA; clear ownA; have Hhbb := Lib.hid hbb; clear hbb
            go_wp2_with (at_builtin; refine append_block _ rfl (.tmp 50) (.tmp 53) 93 rfl (w.heap.size + 2) info_wit Try.underlying93 rfl (by omega) _ L.length (flat3 L) rfl HownA.out w1.heap.size [.int .i64 6, .int .i64 u, .int .i64 0] rfl (Bk.new _ _ _) rfl (by simp [Value.oneCell']) (by omega) (by omega) (by simp; omega) ?_; intro v1 w3 hown3 hb8 hgr3 _; have Hhown3 := Lib.hid hown3; clear hown3; have Hhgr3 := Lib.hid hgr3; clear hgr3)
            have raA : RowsAt (w1.alloc (.cells #[.int .i64 6, .int .i64 u, .int .i64 0] 61)) (w.heap.size + 1) (w.heap.size + 2) n vs Ls (fun u => trisAt T u) := ⟨Hra1.out.bk.alloc _, Hra1.out.fam.below ((Below.refl _ _).alloc (Nat.le_refl _) _) (Nat.le_refl _), Hra1.out.len, Hra1.out.is⟩
            have fam3 : Fam w3 (w.heap.size + 2) 3 vs Ls := raA.fam.kept Hhgr3.out fun i hi => own_apart HownA.out (raA.fam.own i hi (by rw [← raA.fam.len]; exact hi)) (by decide)
            exact ⟨⟨u + 1, _, by omega, by simp, by rw [flat3_snoc, List.length_append]; exact Hhown3.out, Hbad.out, Hkinds.out, by simp; omega, ⟨raA.bk.kept_own HownA.out (by decide) Hhgr3.out, fam3, raA.len, raA.is⟩, (Hbox1.out.alloc _).kept_own HownA.out (by decide) Hhgr3.out, hbA.trans (hb8.mono (by omega))⟩, by simp [intOf]; omega⟩
          · have good : L = [] ↔ ∀ a : Nat, a < u + 1 → PinchOk T a := by rw [Hhst.out, HhL.out]; exact ⟨fun h9 => ⟨h9, Hhpo.out.2 (hbb.1 rfl)⟩, fun h9 => h9.1⟩
            have Hown1 := Lib.hid own1; clear own1; have Hra1 := Lib.hid ra1; clear ra1; have Hbox1 := Lib.hid box1; clear box1; have Hgood := Lib.hid good; clear good; have Hhbb := Lib.hid hbb; clear hbb
            go_wp2
            exact ⟨⟨u + 1, L, by omega, by simp, Hown1.out, Hgood.out, Hhkind.out, by omega, Hra1.out, Hbox1.out, hbel1⟩, by simp [intOf]; omega⟩
        · have hul : u = n := by omega
          subst hul
          have Hhown := Lib.hid hown; clear hown; have HhL := Lib.hid hL; clear hL; have Hhkind := Lib.hid hkind; clear hkind
          go_wp2
          go_ret
          exact ⟨⟨_, rfl, L, own_base Hhown.out (by omega), HhL.out, Hhkind.out, by omega⟩, hbel⟩
end Go.Proofs.Ytckkpmjkajkkmaa
