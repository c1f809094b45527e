/- Walks: ref19's Along. -/
import Derived.Test.YtpbdcppaiafbgaaGreatRU
import Derived.Test.YtpbdcppaiafbgaaGreatRX
import Derived.Test.YtpbdcppaiafbgaaGreatRY
import Derived.Test.YtpbdcppaiafbgaaGreatRZ
import Derived.Test.YtpbdcppaiafbgaaGreatIJ
import Derived.Test.YtpbdcppaiafbgaaGreatApp
import Derived.Test.YtpbdcppaiafbgaaGreatRO
namespace Go.Proofs.YtpbdcppaiafbgaaGreat
open Go Go.RowKit Go.Words Go.Mesh
theorem CheckC.along {N : Int} {T : List T3} {l : List (Int × Int)} {c : Int} (h : CheckC N T l c) (hc : c ≠ 0) : AlongC N T l c := by
  rcases h with h | h | ⟨h1, h2, ⟨h3, h4⟩ | ⟨h3, h4⟩⟩
  · exact .inl h
  · exact .inr (.inl h)
  · exact .inr (.inr ⟨h1, h2, .inl ⟨h3, h4⟩⟩)
  · exact absurd h4 hc
theorem CheckC.ok {N : Int} {T : List T3} {l : List (Int × Int)} (h : CheckC N T l 0) : Surf N T ∧ Go.Mesh.Clean T l ∧ l.any (idleE N T l) = false := by
  rcases h with ⟨_, h⟩ | ⟨_, _, _, _, _, h⟩ | ⟨h1, h2, ⟨_, h⟩ | ⟨h3, _⟩⟩
  · omega
  · exact absurd rfl h
  · omega
  · exact ⟨h1, h2, h3⟩
theorem own_tri_put {W : World} {b1 n gx capx c : Nat} {f : Nat → Int} {u y0 y1 y2 : Int} (h : W.ownsRow b1 57 3 (.slice (some ⟨gx, 0, none⟩) n capx) n (flat3 (relab f n)))
    (h0 : y0 = if 3 * (c / 3) = c then u else f (3 * (c / 3))) (h1 : y1 = if 3 * (c / 3) + 1 = c then u else f (3 * (c / 3) + 1)) (h2 : y2 = if 3 * (c / 3) + 2 = c then u else f (3 * (c / 3) + 2)) :
    (((W.setCell ⟨gx, c / 3 * 3, none⟩ (.int .i64 y0)).setCell ⟨gx, c / 3 * 3 + 1, none⟩ (.int .i64 y1)).setCell ⟨gx, c / 3 * 3 + 2, none⟩ (.int .i64 y2)).ownsRow b1 57 3 (.slice (some ⟨gx, 0, none⟩) n capx) n (flat3 (relab (fun e => if e = c then u else f e) n)) := by
  have h9 := own_put (own_put (own_put h (c / 3 * 3) (.int .i64 y0)) (c / 3 * 3 + 1) (.int .i64 y1)) (c / 3 * 3 + 2) (.int .i64 y2)
  rw [show (((flat3 (relab f n)).set (c / 3 * 3) (.int .i64 y0)).set (c / 3 * 3 + 1) (.int .i64 y1)).set (c / 3 * 3 + 2) (.int .i64 y2) = flat3 (relab (fun e => if e = c then u else f e) n) from ?_] at h9
  · exact h9
  refine List.ext_getElem? fun j => ?_
  have hl : (flat3 (relab f n)).length = n * 3 := by rw [flat3_len, relab_len]
  by_cases hj : j < 3 * n
  · rw [flat3_some (by rw [relab_len]; exact hj), vt_relab _ hj]
    simp only [List.getElem?_set, List.length_set, hl]
    by_cases e2 : c / 3 * 3 + 2 = j
    · rw [if_pos e2, if_pos (by omega), h2, show 3 * (c / 3) + 2 = j by omega]
    · rw [if_neg e2]
      by_cases e1 : c / 3 * 3 + 1 = j
      · rw [if_pos e1, if_pos (by omega), h1, show 3 * (c / 3) + 1 = j by omega]
      · rw [if_neg e1]
        by_cases e0 : c / 3 * 3 = j
        · rw [if_pos e0, if_pos (by omega), h0, show 3 * (c / 3) = j by omega]
        · rw [if_neg e0, flat3_some (by rw [relab_len]; exact hj), vt_relab _ hj, if_neg (by omega)]
  · rw [List.getElem?_eq_none (by simp only [List.length_set, hl]; omega), List.getElem?_eq_none (by rw [flat3_len, relab_len]; omega)]
structure RInv (w : World) (g9 b1 b3 n : Nat) (N : Int) (Ax : Option Addr) (capx : Nat) (f : Nat → Int) (O : List Int) (A9 : Option Addr) (cap9 : Nat) : Prop where
  box : Bk w g9 24 [.int .i64 N, .slice Ax n capx]
  tris : w.ownsRow b1 57 3 (.slice Ax n capx) n (flat3 (relab f n))
  of : w.ownsRow b3 3 1 (.slice A9 O.length cap9) O.length (ivals O)
theorem infoPair19 : (Tryz.prog.info? 42).map (fun i => (i.zero, i.size, i.bytes)) = some (some (.agg #[.int .i64 0, .int .i64 0, .int .i64 0, .int .i64 0]), 4, 32) := by kernel_rfl
section
variable {w w' : World} {g9 b1 b3 n : Nat} {N : Int} {Ax : Option Addr} {capx : Nat} {f : Nat → Int} {O : List Int} {A9 : Option Addr} {cap9 : Nat}
theorem RInv.below (h : RInv w g9 b1 b3 n N Ax capx f O A9 cap9) (hb : Below w.heap.size w w') : RInv w' g9 b1 b3 n N Ax capx f O A9 cap9 :=
  ⟨h.box.below hb h.box.lt, own_below h.tris hb (Nat.le_refl _), own_below h.of hb (Nat.le_refl _)⟩
theorem RInv.grow {A5 : Option Addr} {cap5 : Nat} {O' : List Int} (h : RInv w g9 b1 b3 n N Ax capx f O A9 cap9) (h9 : g9 < b3) (h19 : b1 ≤ b3) (hg : w.grownBy w' (Value.slice A9 O.length cap9).ownBlock) (ho : w'.ownsRow b3 3 1 (.slice A5 O'.length cap5) O'.length (ivals O')) : RInv w' g9 b1 b3 n N Ax capx f O' A5 cap5 where
  box := (hg.block g9 h.box.lt (fun e => by have := (h.of.lt g9 e.symm).1; omega)).trans h.box
  tris := h.tris.kept hg (own_apart (own_base h.of h19) h.tris (by decide))
  of := ho
theorem RInv.put {gx c : Nat} {u y0 y1 y2 : Int} (h : RInv w g9 b1 b3 n N (some ⟨gx, 0, none⟩) capx f O A9 cap9) (hx : gx < g9) (h9 : g9 < b3)
    (h0 : y0 = if 3 * (c / 3) = c then u else f (3 * (c / 3))) (h1 : y1 = if 3 * (c / 3) + 1 = c then u else f (3 * (c / 3) + 1)) (h2 : y2 = if 3 * (c / 3) + 2 = c then u else f (3 * (c / 3) + 2)) :
    RInv (((w.setCell ⟨gx, c / 3 * 3, none⟩ (.int .i64 y0)).setCell ⟨gx, c / 3 * 3 + 1, none⟩ (.int .i64 y1)).setCell ⟨gx, c / 3 * 3 + 2, none⟩ (.int .i64 y2)) g9 b1 b3 n N (some ⟨gx, 0, none⟩) capx (fun e => if e = c then u else f e) O A9 cap9 where
  box := ((h.box.far (p := ⟨gx, c / 3 * 3, none⟩) (by show g9 ≠ gx; omega) _).far (p := ⟨gx, c / 3 * 3 + 1, none⟩) (by show g9 ≠ gx; omega) _).far (p := ⟨gx, c / 3 * 3 + 2, none⟩) (by show g9 ≠ gx; omega) _
  tris := own_tri_put h.tris h0 h1 h2
  of := by
    have a : ∀ (W : World) (i : Nat) (x : Value), W.ownsRow b3 3 1 (.slice A9 O.length cap9) O.length (ivals O) → (W.setCell ⟨gx, i, none⟩ x).ownsRow b3 3 1 (.slice A9 O.length cap9) O.length (ivals O) := fun W i x k => k.kept (grow_cell W gx i x) (by
      cases e : (Value.slice A9 O.length cap9).ownBlock with
      | none => exact .inl rfl
      | some g =>
        have h8 := (k.lt g e).1
        exact .inr (fun e9 => absurd (Option.some.inj e9) (by omega)))
    exact a _ _ _ (a _ _ _ (a _ _ _ h.of))
theorem own_lowset {w : World} {g i base size n : Nat} {e : TypeId} {v u : Value} {xs : List Value} (h : w.ownsRow base e size v n xs) (hb : g < base) : (w.setCell ⟨g, i, none⟩ u).ownsRow base e size v n xs :=
  h.kept (grow_cell w g i u) (.inr fun e => by have := (h.lt _ e).1; omega)
theorem ivals_rep (O : List Int) (i : Nat) (a : Int) (hi : O[i]? = some a) : ((ivals O).drop (i * 1)).take 1 = [.int .i64 a] := by
  have hlt := (List.getElem?_eq_some_iff.1 hi).1
  unfold ivals
  rw [Nat.mul_one, List.drop_eq_getElem_cons (by simpa using hlt)]
  simp only [List.take_succ_cons, List.take_zero, List.getElem_map]
  rw [List.getElem?_eq_getElem hlt] at hi
  rw [Option.some.inj hi]
theorem RInv.inked {u : Int} (h : RInv w g9 b1 b3 n N Ax capx f O A9 cap9) (hx : ∀ gx, (Value.slice Ax n capx).ownBlock = some gx → gx < g9) (h9 : g9 < b3) :
    Bk (w.setCell ⟨g9, 0, none⟩ (.int .i64 u)) g9 24 [.int .i64 u, .slice Ax n capx] ∧ (w.setCell ⟨g9, 0, none⟩ (.int .i64 u)).ownsRow b1 57 3 (.slice Ax n capx) n (flat3 (relab f n)) ∧ (w.setCell ⟨g9, 0, none⟩ (.int .i64 u)).ownsRow b3 3 1 (.slice A9 O.length cap9) O.length (ivals O) := by
  refine ⟨h.box.set 0 _, h.tris.kept (grow_cell w g9 0 _) ?_, h.of.kept (grow_cell w g9 0 _) ?_⟩
  · cases e : (Value.slice Ax n capx).ownBlock with
    | none => exact .inl rfl
    | some g => exact .inr (fun e9 => absurd (Option.some.inj e9) (by have := hx g e; omega))
  · cases e : (Value.slice A9 O.length cap9).ownBlock with
    | none => exact .inl rfl
    | some g => exact .inr (fun e9 => absurd (Option.some.inj e9) (by have := (h.of.lt g e).1; omega))
end
set_option maxRecDepth 40000 in
set_option maxHeartbeats 8000000 in
theorem along_ref_calls0 (HS : ∀ (w : World) (B : Nat) (sv lv : Value) (N : Int) (T : List T3) (L : List (Int × Int)), Sl 3 RTri w B sv T → Sl 2 RPair w B lv L → B ≤ w.heap.size → Surf N T → T.length ≤ 200 → L.length ≤ 1000 → ∀ v : Int, 0 ≤ v ∧ v < N →
      Calls Tryz.prog 71 #[.agg #[.int .i64 N, sv], lv, .int .i64 v] w fun e w' => (∃ r, e = .returned r ∧ ORows w' w.heap.size r (secL T (L.map nm) v (3 * T.length))) ∧ Below w.heap.size w w')
    {w : World} {B : Nat} {sv lv : Value} {N : Int} {T : List T3} {l : List (Int × Int)} (hB0 : B ≤ w.heap.size) (hT : Sl 3 RTri w B sv T) (hl : Sl 2 RPair w B lv l) (hok : ∀ e ∈ l, ok2 e) (hfew : T.length ≤ 200) (hll : l.length ≤ 1000) :
    Calls Tryz.prog 22 #[.agg #[.int .i64 N, sv], lv] w fun e w' => (∃ r c, e = .returned r ∧ AlongEnd w' N T l r c) ∧ Below w.heap.size w w' := by
  obtain ⟨A, cap, rfl, hcap⟩ := hT.form
  obtain ⟨Al, capl, rfl, hcapl⟩ := hl.form
  have hb1 := ((Below.refl w.heap.size w).alloc (Nat.le_refl _) (.cells #[.int .i64 N, .slice A T.length cap] 24)).alloc (by simp) (.cells #[.int .i64 0, .slice none 0 0] 24)
  have hk1 := (Bk.new w 24 [.int .i64 N, .slice A T.length cap]).alloc (.cells #[.int .i64 0, .slice none 0 0] 24)
  have hk2 := Bk.new' (n := w.heap.size + 1) (w := w.alloc (.cells #[.int .i64 N, .slice A T.length cap] 24)) 24 [.int .i64 0, .slice none 0 0] (by simp)
  have hTA := hT.below keeps_tri (hb1.mono hB0)
  have hlA := hl.below keeps_pair (hb1.mono hB0)
  have hz0 : w.heap.size + 2 ≤ ((w.alloc (.cells #[.int .i64 N, .slice A T.length cap] 24)).alloc (.cells #[.int .i64 0, .slice none 0 0] 24)).heap.size := by simp
  generalize hw0 : (w.alloc (.cells #[.int .i64 N, .slice A T.length cap] 24)).alloc (.cells #[.int .i64 0, .slice none 0 0] 24) = w0 at *
  have hch := check19_calls (N := N) hTA hlA (show B ≤ w0.heap.size by omega) hfew hll
  have c0 : w0.cell? ⟨w.heap.size, 0, none⟩ = some (.int .i64 N) := hk1.cell 0
  have c1 : w0.cell? ⟨w.heap.size, 1, none⟩ = some (.slice A T.length cap) := hk1.cell 1
  have bs0 := fun w => build_soup0 w
  have HhT := Lib.hid hT; clear hT; have Hhl := Lib.hid hl; clear hl; have Hhk1 := Lib.hid hk1; clear hk1; have Hhk2 := Lib.hid hk2; clear hk2; have HhTA := Lib.hid hTA; clear hTA; have HhlA := Lib.hid hlA; clear hlA; have Hhch := Lib.hid hch; clear hch; have Hhok := Lib.hid hok; clear hok; have HHS := Lib.hid HS; clear HS
  go_enter Tryz.func22, Tryz.ntmps22
  go_wp2_with fail
  clear hw0
  refine Hhch.out.mono ?_
  rintro e w1 ⟨⟨c8, rfl, hcc⟩, hb2⟩
  have hz1 := hb2.size
  have hbel1 := hb1.trans (hb2.mono (by omega))
  have hk11 := Hhk1.out.below hb2 (by omega)
  have hk21 := Hhk2.out.below hb2 (by omega)
  have hTw := HhTA.out.below keeps_tri (hb2.mono (by omega))
  have hlw := HhlA.out.below keeps_pair (hb2.mono (by omega))
  have d0 : w1.cell? ⟨w.heap.size, 0, none⟩ = some (.int .i64 N) := hk11.cell 0
  have d1 : w1.cell? ⟨w.heap.size, 1, none⟩ = some (.slice A T.length cap) := hk11.cell 1
  have r0 : w1.cell? ⟨w.heap.size + 1, 0, none⟩ = some (.int .i64 0) := hk21.cell 0
  have r1 : w1.cell? ⟨w.heap.size + 1, 1, none⟩ = some (.slice none 0 0) := hk21.cell 1
  have rf := hk21.frozen
  by_cases h80 : c8 = 0
  case neg =>
    have h81 : (c8 != 0) = true := bne_iff_ne.2 h80
    have hkf2 := (hk21.set 0 (.int .i64 0)).set 1 (.slice none 0 0)
    have hbf2 := (hbel1.setCell (p := ⟨w.heap.size + 1, 0, none⟩) (by show w.heap.size ≤ w.heap.size + 1; omega) (.int .i64 0)).setCell (p := ⟨w.heap.size + 1, 1, none⟩) (by show w.heap.size ≤ w.heap.size + 1; omega) (.slice none 0 0)
    have hres := hcc.along h80
    have Hhk11 := Lib.hid hk11; clear hk11; have Hhk21 := Lib.hid hk21; clear hk21; have HhTw := Lib.hid hTw; clear hTw; have Hhlw := Lib.hid hlw; clear hlw; have Hhcc := Lib.hid hcc; clear hcc; have Hhkf2 := Lib.hid hkf2; clear hkf2; have Hhbf2 := Lib.hid hbf2; clear hbf2; have Hhres := Lib.hid hres; clear hres
    go_wp2_with fail
    exact ret_cttt rfl rfl Hhkf2.out Tryz.underlying24 rfl (by kernel_rfl) rfl ⟨⟨_, c8, rfl, Hhres.out, fun _ => rfl, fun h9 => absurd h9 h80⟩, Hhbf2.out⟩
  subst h80
  obtain ⟨hs, hcl, hidle⟩ := hcc.ok
  have hcp := copy15_calls (N := N) hTw (show B ≤ w1.heap.size by omega) hs.tmax
  have hNm := hs.nmax
  have hN0 := hs.n0
  have Hhk11 := Lib.hid hk11; clear hk11; have Hhk21 := Lib.hid hk21; clear hk21; have HhTw := Lib.hid hTw; clear hTw; have Hhlw := Lib.hid hlw; clear hlw; have Hhcc := Lib.hid hcc; clear hcc; have Hhcp := Lib.hid hcp; clear hcp; have Hhidle := Lib.hid hidle; clear hidle
  go_wp2_with fail
  refine Hhcp.out.mono ?_
  rintro e w2 ⟨⟨xv, rfl, hown⟩, hb3⟩
  obtain ⟨n, rfl⟩ : ∃ n : Nat, N = n := ⟨N.toNat, by omega⟩
  obtain ⟨Ax, capx, rfl, hcapx⟩ := own_form hown
  have hz2 := hb3.size
  obtain ⟨w3, hw3⟩ : ∃ w3, w2.alloc (.cells #[.int .i64 (n : Int), .slice Ax T.length capx] 24) = w3 := ⟨_, rfl⟩
  have hk9 : Bk w3 w2.heap.size 24 [.int .i64 (n : Int), .slice Ax T.length capx] := by rw [← hw3]; exact Bk.new w2 _ _
  have hb4 : Below w2.heap.size w2 w3 := by rw [← hw3]; exact (Below.refl w2.heap.size w2).alloc (Nat.le_refl _) _
  have hz3 : w2.heap.size + 1 ≤ w3.heap.size := by rw [← hw3]; simp
  have hb13 := hb3.trans (hb4.mono hz2)
  have hown3 := own_below hown hb4 (Nat.le_refl _)
  have hr3 := Below.refl w3.heap.size w3
  have f0 := (hb13.cell (p := ⟨w.heap.size, 0, none⟩) (by show w.heap.size < _; omega)).trans d0
  have hn0 : w3.ownsRow w3.heap.size 3 1 (.slice none 0 0) 0 (ivals ((List.range 0).map fun k : Nat => (k : Int))) := World.ownsRow_nil _ _ _ _
  have Hhown := Lib.hid hown; clear hown; have Hhown3 := Lib.hid hown3; clear hown3; have Hhk9 := Lib.hid hk9; clear hk9; have Hhn0 := Lib.hid hn0; clear hn0; have Hhcl := Lib.hid hcl; clear hcl; have Hhs := Lib.hid hs; clear hs
  go_wp2_with fail
  clear hw3
  go_loopw [10, 11] (fun ov iv wr => ∃ (k : Nat) (A9 : Option Addr) (cap9 : Nat), k ≤ n ∧ iv = .int .i64 (k : Int) ∧ ov = .slice A9 k cap9 ∧ wr.ownsRow w3.heap.size 3 1 (.slice A9 k cap9) k (ivals ((List.range k).map fun k : Nat => (k : Int))) ∧ Below w3.heap.size w3 wr) (fun _ iv _ => n - (intOf iv).toNat)
  case atStart => exact ⟨0, none, 0, by omega, rfl, rfl, Hhn0.out, hr3⟩
  case round =>
    obtain ⟨k, A9, cap9, hk, rfl, rfl, hof, hbr⟩ := hrel
    have hzr := hbr.size
    have g0 := (hbr.cell (p := ⟨w.heap.size, 0, none⟩) (by show w.heap.size < _; omega)).trans f0
    by_cases hkn : k < n
    · have hiv : ivals ((List.range k).map fun k : Nat => (k : Int)) ++ [.int .i64 (k : Int)] = ivals ((List.range (k + 1)).map fun k : Nat => (k : Int)) := by
        unfold ivals
        rw [List.range_succ, List.map_append, List.map_append]; rfl
      obtain ⟨wb, hwb⟩ : ∃ wb, wr.alloc (.cells #[.int .i64 (k : Int)] 3) = wb := ⟨_, rfl⟩
      have hkb : Bk wb wr.heap.size 3 [.int .i64 (k : Int)] := by rw [← hwb]; exact Bk.new wr _ _
      have hofb : wb.ownsRow w3.heap.size 3 1 (.slice A9 k cap9) k (ivals ((List.range k).map fun k : Nat => (k : Int))) := by rw [← hwb]; exact hof.alloc _
      have hbb : Below w3.heap.size w3 wb := by rw [← hwb]; exact hbr.alloc hzr _
      have hzb : w3.heap.size ≤ wb.heap.size := hbb.size
      have hnews : ∀ ad, (some ⟨wr.heap.size, 0, none⟩ : Option Addr) = some ad → ∀ j u, ([.int .i64 (k : Int)] : List Value)[j]? = some u → wb.cell? (ad.add j) = some u := fun ad e j u hj => by
        injection e with e
        subst e
        rw [Addr.add_lit, Nat.zero_add]
        exact (hkb.cell j).trans hj
      have Hhof := Lib.hid hof; clear hof; have Hhkb := Lib.hid hkb; clear hkb; have Hhofb := Lib.hid hofb; clear hofb; have Hhnews := Lib.hid hnews; clear hnews; have Hhiv := Lib.hid hiv; clear hiv
      go_wp2_with (at_builtin; refine wpList_append_opt rfl (.tmp 38) (.tmp 40) 28 rfl w3.heap.size Tryz.underlying28 info_int rfl (by decide) _ k (ivals ((List.range k).map fun k : Nat => (k : Int))) rfl Hhofb.out (some ⟨wr.heap.size, 0, none⟩) 1 1 [.int .i64 (k : Int)] rfl rfl (fun h => by cases h) Hhnews.out (by simp [Value.oneCell']) (by omega) (by decide) hzb ?_)
      all_goals first | (exfalso; omega) | skip
      intro v' w5 hown5 hgr5 hb5 _
      clear hwb
      obtain ⟨A5, cap5, rfl, hcap5⟩ := own_form hown5
      rw [Hhiv.out] at hown5
      have hb35 := hbb.trans hb5
      have Hhown5 := Lib.hid hown5; clear hown5; have Hhgr5 := Lib.hid hgr5; clear hgr5
      go_wp2_with fail
      exact ⟨⟨k + 1, A5, cap5, by omega, by simp, rfl, Hhown5.out, hb35⟩, by simp [intOf]; omega⟩
    · obtain rfl : k = n := by omega
      obtain ⟨w4, hw4⟩ : ∃ w4, w4 = wr := ⟨_, rfl⟩
      subst hw4
      have hz4 := hbr.size
      have hri : RInv w4 w2.heap.size w1.heap.size w3.heap.size T.length (k : Int) Ax capx (numE (k : Int) T (l.map nm) (exH T (l.map nm) 0)) (outO T k (exH T (l.map nm) 0)) A9 cap9 := by
        have e1 : exH T (l.map nm) 0 = [] := rfl
        have e2 : outO T k [] = (List.range k).map fun k : Nat => (k : Int) := by unfold outO; simp
        have e3 : (outO T k []).length = k := by rw [outO_len]; rfl
        rw [e1]
        refine ⟨Hhk9.out.below hbr Hhk9.out.lt, ?_, ?_⟩
        · rw [numE_nil, relab_vt]
          exact own_below Hhown3.out hbr (Nat.le_refl _)
        · rw [e3, e2]
          exact hof
      have hb14 := hb13.trans (hbr.mono (by have := hb13.size; omega))
      have hgx : ∀ gx, Ax = some ⟨gx, 0, none⟩ → gx < w2.heap.size := fun gx e => (Hhown.out.lt gx (by rw [e]; rfl)).2
      have hTz : ∀ wz, Below w1.heap.size w1 wz → Sl 3 RTri wz B (.slice A T.length cap) T := fun wz hz => HhTw.out.below keeps_tri (hz.mono (show B ≤ w1.heap.size by omega))
      have hlz : ∀ wz, Below w1.heap.size w1 wz → Sl 2 RPair wz B (.slice Al l.length capl) l := fun wz hz => Hhlw.out.below keeps_pair (hz.mono (show B ≤ w1.heap.size by omega))
      have hkz : ∀ wz, Below w1.heap.size w1 wz → Bk wz w.heap.size 24 [.int .i64 (k : Int), .slice A T.length cap] := fun wz hz => Hhk11.out.below hz (by omega)
      have hex0 : (outO T k (exH T (l.map nm) 0)).length = k := by rw [outO_len]; rfl
      have Hhof := Lib.hid hof; clear hof; have Hhri := Lib.hid hri; clear hri; have Hhgx := Lib.hid hgx; clear hgx; have HhTz := Lib.hid hTz; clear hTz; have Hhlz := Lib.hid hlz; clear hlz; have Hhkz := Lib.hid hkz; clear hkz; have Hhex0 := Lib.hid hex0; clear hex0
      go_wp2_with fail
      go_loopw [10, 12] (fun ov vv wr => ∃ (v n8 : Nat) (A8 : Option Addr) (cap8 : Nat), v ≤ k ∧ vv = .int .i64 (v : Int) ∧ (outO T k (exH T (l.map nm) v)).length = n8 ∧ ov = .slice A8 n8 cap8 ∧ RInv wr w2.heap.size w1.heap.size w3.heap.size T.length (k : Int) Ax capx (numE (k : Int) T (l.map nm) (exH T (l.map nm) v)) (outO T k (exH T (l.map nm) v)) A8 cap8 ∧ Below w1.heap.size w1 wr ∧ w3.heap.size ≤ wr.heap.size) (fun _ vv _ => k - (intOf vv).toNat)
      case atStart => exact ⟨0, k, A9, cap9, by omega, rfl, Hhex0.out, rfl, Hhri.out, hb14, hz4⟩
      case round =>
        obtain ⟨v, n8, A8, cap8, hv, rfl, hn8, rfl, hri, hb1r, hz3v⟩ := hrel
        clear Hhof
        obtain ⟨wv, hwv⟩ : ∃ wv, wv = wr := ⟨_, rfl⟩
        subst hwv
        have hzv := hb1r.size
        have hkd := Hhkz.out wv hb1r
        have g0 : wv.cell? ⟨w.heap.size, 0, none⟩ = some (.int .i64 (k : Int)) := hkd.cell 0
        have g1 : wv.cell? ⟨w.heap.size, 1, none⟩ = some (.slice A T.length cap) := hkd.cell 1
        by_cases hvk : v < k
        · have hvN : (v : Int) < (k : Int) := by omega
          have hse := HHS.out _ _ _ _ (k : Int) _ _ (HhTz.out wv hb1r) (Hhlz.out wv hb1r) (show B ≤ wv.heap.size by omega) Hhs.out hfew hll (v : Int) ⟨by omega, hvN⟩
          have Hhri := Lib.hid hri; clear hri; have Hhkd := Lib.hid hkd; clear hkd; have Hhse := Lib.hid hse; clear hse
          go_wp2_with fail
          refine Hhse.out.mono ?_
          rintro e ws ⟨⟨rv, rfl, hor⟩, hbs⟩
          have hsec := secL_end (C := l.map nm) Hhs.out (v := (v : Int))
          have hS1 : 1 ≤ (secL T (l.map nm) (v : Int) (3 * T.length)).length := by
            obtain ⟨b0, hb0, _⟩ := hdV_tail (C := l.map nm) Hhs.out (v := (v : Int)) ⟨by omega, hvN⟩
            rw [hsec.1, hb0, List.length_cons]; omega
          have hS9 : (secL T (l.map nm) (v : Int) (3 * T.length)).length ≤ 600 := by
            rw [hsec.1]
            have := hdV_few T (l.map nm) (v : Int)
            omega
          have hrlen := secL_row_len (T := T) (C := l.map nm) (v := (v : Int)) (3 * T.length)
          generalize secL T (l.map nm) (v : Int) (3 * T.length) = S at *
          obtain ⟨Ao, capo, rfl, hcapo⟩ := hor.form
          obtain ⟨go, rv0, he0, _, _, hgo, hgoz, _⟩ := hor.at_ rfl (i := 0) (by omega)
          subst he0
          have hz8 := hbs.size
          have hri8 := Hhri.out.below hbs
          have hp1 : exH T (l.map nm) v = parH T (l.map nm) v 1 := (parH_one v).symm
          rw [hp1] at hri8
          have hb18 := hb1r.trans (hbs.mono hzv)
          have hof8 : ∀ g, (Value.slice A8 (outO T k (parH T (l.map nm) v 1)).length cap8).ownBlock = some g → g < wv.heap.size ∨ ws.heap.size ≤ g := fun g e => .inl (by
            have h9 := Hhri.out.of.lt g
            rw [hp1] at h9
            exact (h9 e).2)
          have hn81 : (outO T k (parH T (l.map nm) v 1)).length = n8 := by rw [← hp1]; exact hn8
          have Hhor := Lib.hid hor; clear hor; have Hhri8 := Lib.hid hri8; clear hri8; have Hhsec := Lib.hid hsec; clear hsec; have Hhof8 := Lib.hid hof8; clear hof8; have Hhp1 := Lib.hid hp1; clear hp1; have Hhn8 := Lib.hid hn8; clear hn8; have Hhn81 := Lib.hid hn81; clear hn81; have Hhrlen := Lib.hid hrlen; clear hrlen
          go_wp2_with fail
          go_loopw [10, 14] (fun ov jv wq => ∃ (j nO : Nat) (A5 : Option Addr) (cap5 : Nat), 1 ≤ j ∧ j ≤ S.length ∧ jv = .int .i64 (j : Int) ∧ (outO T k (parH T (l.map nm) v j)).length = nO ∧ ov = .slice A5 nO cap5 ∧ RInv wq w2.heap.size w1.heap.size w3.heap.size T.length (k : Int) Ax capx (numE (k : Int) T (l.map nm) (parH T (l.map nm) v j)) (outO T k (parH T (l.map nm) v j)) A5 cap5 ∧ Below w1.heap.size w1 wq ∧ ws.heap.size ≤ wq.heap.size ∧ (∀ g, wv.heap.size ≤ g → g < ws.heap.size → wq.heap[g]? = ws.heap[g]?) ∧ ∀ g, (Value.slice A5 (outO T k (parH T (l.map nm) v j)).length cap5).ownBlock = some g → g < wv.heap.size ∨ ws.heap.size ≤ g) (fun _ jv _ => S.length - (intOf jv).toNat)
          case atStart => exact ⟨1, n8, A8, cap8, by omega, hS1, rfl, Hhn81.out, rfl, Hhri8.out, hb18, Nat.le_refl _, fun _ _ _ => rfl, Hhof8.out⟩
          case round =>
            obtain ⟨j, nO, A5, cap5, hj1, hjS, rfl, hnO, rfl, hri5, hb5, hz5, hk5, hof5⟩ := hrel
            obtain ⟨wj, hwj⟩ : ∃ wj, wj = wr := ⟨_, rfl⟩
            subst hwj
            by_cases hjl : j < S.length
            · obtain ⟨go', rv, he1, hgc, _, _, _, hrow⟩ := Hhor.out.at_ rfl hjl
              injection he1 with he1
              injection he1 with he1
              subst he1
              have hHl : j < (hdV T (l.map nm) (v : Int)).length := by rw [← Hhsec.out.1]; exact hjl
              have hrowm := Hhsec.out.2 j S[j] _ (List.getElem?_eq_getElem hjl) (List.getElem?_eq_getElem hHl)
              obtain ⟨p1, p2, p3, p4, p5⟩ := parH_step Hhs.out hvN (by omega) (List.getElem?_eq_getElem hHl)
              have pl := parH_few (T := T) (C := l.map nm) v j
              have hrel0 := relab_row (N := (k : Int)) (n := T.length) p2 p3 p4 hrowm
              have hrl : S[j].length ≤ 600 := Nat.le_trans (Hhrlen.out _ (List.getElem_mem hjl)) (by omega)
              have hrp : 0 < S[j].length := List.length_pos_of_mem ((hrowm _).2 ⟨(mem_hdV.1 (List.getElem_mem hHl)).1, Sect.refl _⟩)
              have hgcj := (cell_of_block (hk5 go hgo hgoz)).trans hgc
              have hoO : (outO T k (parH T (l.map nm) v j)).length = k + (parH T (l.map nm) v j).length := outO_len _ _ _
              have hoS : outO T k (parH T (l.map nm) v (j + 1)) = outO T k (parH T (l.map nm) v j) ++ [(v : Int)] := by rw [p1, outO_snoc, p5]
              generalize (hdV T (l.map nm) (v : Int))[j] = hh at *
              generalize S[j] = row at *
              obtain ⟨gb, capb, rfl, hgb, hgbz⟩ := own_some hrow hrp
              generalize hH : parH T (l.map nm) v j = H at *
              have hnO9 : nO = k + H.length := by omega
              have hnO0 : nO ≤ 5000 := by omega
              have hkn : (k : Int) + ((H.length : Nat) : Int) = (nO : Int) := by omega
              rw [hkn] at hrel0
              have hri6 : RInv wj w2.heap.size w1.heap.size w3.heap.size T.length (k : Int) Ax capx (fun c => if c ∈ row.take 0 then (nO : Int) else numE (k : Int) T (l.map nm) H c) (outO T k H) A5 cap5 := by
                have e9 : (fun c => if c ∈ row.take 0 then (nO : Int) else numE (k : Int) T (l.map nm) H c) = numE (k : Int) T (l.map nm) H := funext fun c => by simp
                rw [e9]; exact hri5
              clear hri5
              have Hhri6 := Lib.hid hri6; clear hri6; have Hhk5 := Lib.hid hk5; clear hk5; have Hhof5 := Lib.hid hof5; clear hof5; have Hp1 := Lib.hid p1; clear p1; have Hp2 := Lib.hid p2; clear p2; have Hp4 := Lib.hid p4; clear p4; have Hhrel0 := Lib.hid hrel0; clear hrel0; have Hhrowm := Lib.hid hrowm; clear hrowm; have Hhrow := Lib.hid hrow; clear hrow; have Hhgc := Lib.hid hgc; clear hgc; have HhoO := Lib.hid hoO; clear hoO; have HhoS := Lib.hid hoS; clear hoS; have HhH := Lib.hid hH; clear hH; have HhnO := Lib.hid hnO; clear hnO; have Hhkn := Lib.hid hkn; clear hkn; have HhnO9 := Lib.hid hnO9; clear hnO9
              go_wp2_with fail
              go_loopw [15] (fun iv wq => ∃ i : Nat, i ≤ row.length ∧ iv = .int .i64 (i : Int) ∧ RInv wq w2.heap.size w1.heap.size w3.heap.size T.length (k : Int) Ax capx (fun c => if c ∈ row.take i then (nO : Int) else numE (k : Int) T (l.map nm) H c) (outO T k H) A5 cap5 ∧ Below w1.heap.size w1 wq ∧ ws.heap.size ≤ wq.heap.size ∧ (∀ g, wv.heap.size ≤ g → g < ws.heap.size → wq.heap[g]? = ws.heap[g]?)) (fun iv _ => row.length - (intOf iv).toNat)
              case atStart => exact ⟨0, by omega, rfl, Hhri6.out, hb5, hz5, Hhk5.out⟩
              case round =>
                obtain ⟨i, hi, rfl, hriz, hbz, hzz, hkz⟩ := hrel
                obtain ⟨wz, hwz⟩ : ∃ wz, wz = wr := ⟨_, rfl⟩
                subst hwz
                have hgcz : wz.cell? ⟨go, j, none⟩ = some (.slice (some ⟨gb, 0, none⟩) row.length capb) := (cell_of_block (hkz go hgo hgoz)).trans Hhgc.out
                by_cases hil : i < row.length
                · have hcc : wz.cell? ⟨gb, i, none⟩ = some (.int .i64 (row[i] : Int)) := (cell_of_block (hkz gb hgb hgbz)).trans (nvals_cell Hhrow.out hil rfl)
                  have hc3 := ((Hhrowm.out row[i]).1 (List.getElem_mem hil)).1
                  have hnext := take_fun (nO : Int) (numE (k : Int) T (l.map nm) H) hil
                  obtain ⟨gx, capx', hsv, _, hgxz⟩ := own_some hriz.tris (by omega)
                  injection hsv with hs1 _ hs2
                  subst hs1; subst hs2
                  have hxlt := Hhgx.out gx rfl
                  obtain ⟨F, hF⟩ : ∃ F, F = (fun c => if c ∈ row.take i then (nO : Int) else numE (k : Int) T (l.map nm) H c) := ⟨_, rfl⟩
                  have hnext2 : (fun c => if c = row[i] then (nO : Int) else F c) = fun c => if c ∈ row.take (i + 1) then (nO : Int) else numE (k : Int) T (l.map nm) H c := by rw [hF]; exact hnext
                  rw [← hF] at hriz
                  clear hnext
                  have e0 : wz.cell? ⟨w2.heap.size, 0, none⟩ = some (.int .i64 (k : Int)) := hriz.box.cell 0
                  have e1 : wz.cell? ⟨w2.heap.size, 1, none⟩ = some (.slice (some ⟨gx, 0, none⟩) T.length capx) := hriz.box.cell 1
                  have hcell : ∀ m, m < 3 * T.length → wz.cell? ⟨gx, m, none⟩ = some (.int .i64 (F m)) := fun m hm => by
                    have h9 := hriz.tris.cellAt m (by omega)
                    rw [flat3_some (by rw [relab_len]; exact hm), vt_relab _ hm] at h9
                    exact h9
                  have hfz := hriz.tris.frozenAt
                  obtain ⟨d, hd⟩ : ∃ d, row[i] / 3 = d := ⟨_, rfl⟩
                  obtain ⟨q, hq⟩ : ∃ q, row[i] % 3 = q := ⟨_, rfl⟩
                  have hq3 : q < 3 := by omega
                  have hcd : ((row[i] : Nat) : Int) / 3 = (d : Int) := by omega
                  have hcq : ((row[i] : Nat) : Int) % 3 = (q : Int) := by omega
                  have hd3 : d < T.length := by omega
                  have hcl : row[i] ≤ 3000 := by omega
                  have x0 := hcell (3 * d) (by omega)
                  have x1 := hcell (3 * d + 1) (by omega)
                  have x2 := hcell (3 * d + 2) (by omega)
                  obtain ⟨u0, hu0⟩ : ∃ u, F (3 * d) = u := ⟨_, rfl⟩
                  obtain ⟨u1, hu1⟩ : ∃ u, F (3 * d + 1) = u := ⟨_, rfl⟩
                  obtain ⟨u2, hu2⟩ : ∃ u, F (3 * d + 2) = u := ⟨_, rfl⟩
                  rw [hu0, Nat.mul_comm] at x0
                  rw [hu1, Nat.mul_comm] at x1
                  rw [hu2, Nat.mul_comm] at x2
                  have z0 := hfz (d * 3)
                  have z1 := hfz (d * 3 + 1)
                  have z2 := hfz (d * 3 + 2)
                  generalize row[i] = c at *
                  have Hhriz := Lib.hid hriz; clear hriz; have Hhcell := Lib.hid hcell; clear hcell; have Hhfz := Lib.hid hfz; clear hfz; have Hhnext2 := Lib.hid hnext2; clear hnext2; have Hhkz := Lib.hid hkz; clear hkz; have HhF := Lib.hid hF; clear hF; have Hhu0 := Lib.hid hu0; clear hu0; have Hhu1 := Lib.hid hu1; clear hu1; have Hhu2 := Lib.hid hu2; clear hu2; have Hhd := Lib.hid hd; clear hd; have Hhq := Lib.hid hq; clear hq
                  rcases (by omega : q = 0 ∨ q = 1 ∨ q = 2) with rfl | rfl | rfl
                  · have hal : Below wz.heap.size wz (wz.alloc (.cells #[.int .i64 (nO : Int), .int .i64 u1, .int .i64 u2] 57)) := (Below.refl wz.heap.size wz).alloc (Nat.le_refl _) _
                    have e1' : (wz.alloc (.cells #[.int .i64 (nO : Int), .int .i64 u1, .int .i64 u2] 57)).cell? ⟨w2.heap.size, 1, none⟩ = some (.slice (some ⟨gx, 0, none⟩) T.length capx) := (hal.cell (p := ⟨w2.heap.size, 1, none⟩) (by show w2.heap.size < _; omega)).trans e1
                    have z0' : (wz.alloc (.cells #[.int .i64 (nO : Int), .int .i64 u1, .int .i64 u2] 57)).frozen? ⟨gx, d * 3, none⟩ = false := (World.frozen?_of_block (hal.block gx (by omega))).trans z0
                    have z1' : (wz.alloc (.cells #[.int .i64 (nO : Int), .int .i64 u1, .int .i64 u2] 57)).frozen? ⟨gx, d * 3 + 1, none⟩ = false := (World.frozen?_of_block (hal.block gx (by omega))).trans z1
                    have z2' : (wz.alloc (.cells #[.int .i64 (nO : Int), .int .i64 u1, .int .i64 u2] 57)).frozen? ⟨gx, d * 3 + 2, none⟩ = false := (World.frozen?_of_block (hal.block gx (by omega))).trans z2
                    go_wp2_with fail
                    have hp := Hhriz.out.put (c := c) (u := (nO : Int)) (y0 := (nO : Int)) (y1 := u1) (y2 := u2) hxlt (by omega) (by rw [if_pos (by have := Hhq.out; omega)]) (by rw [if_neg (by have := Hhq.out; omega), Hhd.out, Hhu1.out]) (by rw [if_neg (by have := Hhq.out; omega), Hhd.out, Hhu2.out])
                    rw [Hhd.out] at hp
                    rw [Hhnext2.out] at hp
                    have hb9 := ((hbz.setCell (p := ⟨gx, d * 3, none⟩) (by show w1.heap.size ≤ gx; omega) (.int .i64 (nO : Int))).setCell (p := ⟨gx, d * 3 + 1, none⟩) (by show w1.heap.size ≤ gx; omega) (.int .i64 u1)).setCell (p := ⟨gx, d * 3 + 2, none⟩) (by show w1.heap.size ≤ gx; omega) (.int .i64 u2)
                    have hk9 : ∀ g, wv.heap.size ≤ g → g < ws.heap.size → (((wz.setCell ⟨gx, d * 3, none⟩ (.int .i64 (nO : Int))).setCell ⟨gx, d * 3 + 1, none⟩ (.int .i64 u1)).setCell ⟨gx, d * 3 + 2, none⟩ (.int .i64 u2)).heap[g]? = ws.heap[g]? := fun g h1 h2 =>
                      ((grow_cell _ gx _ _).block g (by simp; omega) (fun e => by injection e with e; omega)).trans (((grow_cell _ gx _ _).block g (by simp; omega) (fun e => by injection e with e; omega)).trans (((grow_cell _ gx _ _).block g (by omega) (fun e => by injection e with e; omega)).trans (Hhkz.out g h1 h2)))
                    have hsz9 : wz.heap.size ≤ (((wz.setCell ⟨gx, d * 3, none⟩ (.int .i64 (nO : Int))).setCell ⟨gx, d * 3 + 1, none⟩ (.int .i64 u1)).setCell ⟨gx, d * 3 + 2, none⟩ (.int .i64 u2)).heap.size := by simp
                    generalize ((wz.setCell ⟨gx, d * 3, none⟩ (.int .i64 (nO : Int))).setCell ⟨gx, d * 3 + 1, none⟩ (.int .i64 u1)).setCell ⟨gx, d * 3 + 2, none⟩ (.int .i64 u2) = W at *
                    have hba := (Below.refl W.heap.size W).alloc (Nat.le_refl _) (.cells #[.int .i64 (nO : Int), .int .i64 u1, .int .i64 u2] 57)
                    have hp2 := hp.below hba
                    have hb92 := hb9.trans (hba.mono (by omega))
                    have hk92 := fun g h1 h2 => (hba.block g (by omega)).trans (hk9 g h1 h2)
                    have hs92 := hba.size
                    have Hhp := Lib.hid hp; clear hp; have Hhp2 := Lib.hid hp2; clear hp2; have Hhb9 := Lib.hid hb9; clear hb9; have Hhb92 := Lib.hid hb92; clear hb92; have Hhk9 := Lib.hid hk9; clear hk9; have Hhk92 := Lib.hid hk92; clear hk92
                    exact ⟨⟨i + 1, by omega, by simp, Hhp2.out, Hhb92.out, by omega, Hhk92.out⟩, by simp [intOf]; omega⟩
                  · have hal : Below wz.heap.size wz (wz.alloc (.cells #[.int .i64 u0, .int .i64 (nO : Int), .int .i64 u2] 57)) := (Below.refl wz.heap.size wz).alloc (Nat.le_refl _) _
                    have e1' : (wz.alloc (.cells #[.int .i64 u0, .int .i64 (nO : Int), .int .i64 u2] 57)).cell? ⟨w2.heap.size, 1, none⟩ = some (.slice (some ⟨gx, 0, none⟩) T.length capx) := (hal.cell (p := ⟨w2.heap.size, 1, none⟩) (by show w2.heap.size < _; omega)).trans e1
                    have z0' : (wz.alloc (.cells #[.int .i64 u0, .int .i64 (nO : Int), .int .i64 u2] 57)).frozen? ⟨gx, d * 3, none⟩ = false := (World.frozen?_of_block (hal.block gx (by omega))).trans z0
                    have z1' : (wz.alloc (.cells #[.int .i64 u0, .int .i64 (nO : Int), .int .i64 u2] 57)).frozen? ⟨gx, d * 3 + 1, none⟩ = false := (World.frozen?_of_block (hal.block gx (by omega))).trans z1
                    have z2' : (wz.alloc (.cells #[.int .i64 u0, .int .i64 (nO : Int), .int .i64 u2] 57)).frozen? ⟨gx, d * 3 + 2, none⟩ = false := (World.frozen?_of_block (hal.block gx (by omega))).trans z2
                    go_wp2_with fail
                    have hp := Hhriz.out.put (c := c) (u := (nO : Int)) (y0 := u0) (y1 := (nO : Int)) (y2 := u2) hxlt (by omega) (by rw [if_neg (by have := Hhq.out; omega), Hhd.out, Hhu0.out]) (by rw [if_pos (by have := Hhq.out; omega)]) (by rw [if_neg (by have := Hhq.out; omega), Hhd.out, Hhu2.out])
                    rw [Hhd.out] at hp
                    rw [Hhnext2.out] at hp
                    have hb9 := ((hbz.setCell (p := ⟨gx, d * 3, none⟩) (by show w1.heap.size ≤ gx; omega) (.int .i64 u0)).setCell (p := ⟨gx, d * 3 + 1, none⟩) (by show w1.heap.size ≤ gx; omega) (.int .i64 (nO : Int))).setCell (p := ⟨gx, d * 3 + 2, none⟩) (by show w1.heap.size ≤ gx; omega) (.int .i64 u2)
                    have hk9 : ∀ g, wv.heap.size ≤ g → g < ws.heap.size → (((wz.setCell ⟨gx, d * 3, none⟩ (.int .i64 u0)).setCell ⟨gx, d * 3 + 1, none⟩ (.int .i64 (nO : Int))).setCell ⟨gx, d * 3 + 2, none⟩ (.int .i64 u2)).heap[g]? = ws.heap[g]? := fun g h1 h2 =>
                      ((grow_cell _ gx _ _).block g (by simp; omega) (fun e => by injection e with e; omega)).trans (((grow_cell _ gx _ _).block g (by simp; omega) (fun e => by injection e with e; omega)).trans (((grow_cell _ gx _ _).block g (by omega) (fun e => by injection e with e; omega)).trans (Hhkz.out g h1 h2)))
                    have hsz9 : wz.heap.size ≤ (((wz.setCell ⟨gx, d * 3, none⟩ (.int .i64 u0)).setCell ⟨gx, d * 3 + 1, none⟩ (.int .i64 (nO : Int))).setCell ⟨gx, d * 3 + 2, none⟩ (.int .i64 u2)).heap.size := by simp
                    generalize ((wz.setCell ⟨gx, d * 3, none⟩ (.int .i64 u0)).setCell ⟨gx, d * 3 + 1, none⟩ (.int .i64 (nO : Int))).setCell ⟨gx, d * 3 + 2, none⟩ (.int .i64 u2) = W at *
                    have hba := (Below.refl W.heap.size W).alloc (Nat.le_refl _) (.cells #[.int .i64 u0, .int .i64 (nO : Int), .int .i64 u2] 57)
                    have hp2 := hp.below hba
                    have hb92 := hb9.trans (hba.mono (by omega))
                    have hk92 := fun g h1 h2 => (hba.block g (by omega)).trans (hk9 g h1 h2)
                    have hs92 := hba.size
                    have Hhp := Lib.hid hp; clear hp; have Hhp2 := Lib.hid hp2; clear hp2; have Hhb9 := Lib.hid hb9; clear hb9; have Hhb92 := Lib.hid hb92; clear hb92; have Hhk9 := Lib.hid hk9; clear hk9; have Hhk92 := Lib.hid hk92; clear hk92
                    exact ⟨⟨i + 1, by omega, by simp, Hhp2.out, Hhb92.out, by omega, Hhk92.out⟩, by simp [intOf]; omega⟩
                  · have hal : Below wz.heap.size wz (wz.alloc (.cells #[.int .i64 u0, .int .i64 u1, .int .i64 (nO : Int)] 57)) := (Below.refl wz.heap.size wz).alloc (Nat.le_refl _) _
                    have e1' : (wz.alloc (.cells #[.int .i64 u0, .int .i64 u1, .int .i64 (nO : Int)] 57)).cell? ⟨w2.heap.size, 1, none⟩ = some (.slice (some ⟨gx, 0, none⟩) T.length capx) := (hal.cell (p := ⟨w2.heap.size, 1, none⟩) (by show w2.heap.size < _; omega)).trans e1
                    have z0' : (wz.alloc (.cells #[.int .i64 u0, .int .i64 u1, .int .i64 (nO : Int)] 57)).frozen? ⟨gx, d * 3, none⟩ = false := (World.frozen?_of_block (hal.block gx (by omega))).trans z0
                    have z1' : (wz.alloc (.cells #[.int .i64 u0, .int .i64 u1, .int .i64 (nO : Int)] 57)).frozen? ⟨gx, d * 3 + 1, none⟩ = false := (World.frozen?_of_block (hal.block gx (by omega))).trans z1
                    have z2' : (wz.alloc (.cells #[.int .i64 u0, .int .i64 u1, .int .i64 (nO : Int)] 57)).frozen? ⟨gx, d * 3 + 2, none⟩ = false := (World.frozen?_of_block (hal.block gx (by omega))).trans z2
                    go_wp2_with fail
                    have hp := Hhriz.out.put (c := c) (u := (nO : Int)) (y0 := u0) (y1 := u1) (y2 := (nO : Int)) hxlt (by omega) (by rw [if_neg (by have := Hhq.out; omega), Hhd.out, Hhu0.out]) (by rw [if_neg (by have := Hhq.out; omega), Hhd.out, Hhu1.out]) (by rw [if_pos (by have := Hhq.out; omega)])
                    rw [Hhd.out] at hp
                    rw [Hhnext2.out] at hp
                    have hb9 := ((hbz.setCell (p := ⟨gx, d * 3, none⟩) (by show w1.heap.size ≤ gx; omega) (.int .i64 u0)).setCell (p := ⟨gx, d * 3 + 1, none⟩) (by show w1.heap.size ≤ gx; omega) (.int .i64 u1)).setCell (p := ⟨gx, d * 3 + 2, none⟩) (by show w1.heap.size ≤ gx; omega) (.int .i64 (nO : Int))
                    have hk9 : ∀ g, wv.heap.size ≤ g → g < ws.heap.size → (((wz.setCell ⟨gx, d * 3, none⟩ (.int .i64 u0)).setCell ⟨gx, d * 3 + 1, none⟩ (.int .i64 u1)).setCell ⟨gx, d * 3 + 2, none⟩ (.int .i64 (nO : Int))).heap[g]? = ws.heap[g]? := fun g h1 h2 =>
                      ((grow_cell _ gx _ _).block g (by simp; omega) (fun e => by injection e with e; omega)).trans (((grow_cell _ gx _ _).block g (by simp; omega) (fun e => by injection e with e; omega)).trans (((grow_cell _ gx _ _).block g (by omega) (fun e => by injection e with e; omega)).trans (Hhkz.out g h1 h2)))
                    have hsz9 : wz.heap.size ≤ (((wz.setCell ⟨gx, d * 3, none⟩ (.int .i64 u0)).setCell ⟨gx, d * 3 + 1, none⟩ (.int .i64 u1)).setCell ⟨gx, d * 3 + 2, none⟩ (.int .i64 (nO : Int))).heap.size := by simp
                    generalize ((wz.setCell ⟨gx, d * 3, none⟩ (.int .i64 u0)).setCell ⟨gx, d * 3 + 1, none⟩ (.int .i64 u1)).setCell ⟨gx, d * 3 + 2, none⟩ (.int .i64 (nO : Int)) = W at *
                    have hba := (Below.refl W.heap.size W).alloc (Nat.le_refl _) (.cells #[.int .i64 u0, .int .i64 u1, .int .i64 (nO : Int)] 57)
                    have hp2 := hp.below hba
                    have hb92 := hb9.trans (hba.mono (by omega))
                    have hk92 := fun g h1 h2 => (hba.block g (by omega)).trans (hk9 g h1 h2)
                    have hs92 := hba.size
                    have Hhp := Lib.hid hp; clear hp; have Hhp2 := Lib.hid hp2; clear hp2; have Hhb9 := Lib.hid hb9; clear hb9; have Hhb92 := Lib.hid hb92; clear hb92; have Hhk9 := Lib.hid hk9; clear hk9; have Hhk92 := Lib.hid hk92; clear hk92
                    exact ⟨⟨i + 1, by omega, by simp, Hhp2.out, Hhb92.out, by omega, Hhk92.out⟩, by simp [intOf]; omega⟩
                · obtain rfl : i = row.length := by omega
                  have hrig : RInv wz w2.heap.size w1.heap.size w3.heap.size T.length (k : Int) Ax capx (numE (k : Int) T (l.map nm) (H ++ [hh])) (outO T k H) A5 cap5 := by
                    refine ⟨hriz.box, ?_, hriz.of⟩
                    rw [← Hhrel0.out]
                    have h9 := hriz.tris
                    rw [List.take_length] at h9
                    exact h9
                  have hofz := hrig.of
                  rw [HhnO.out] at hofz
                  obtain ⟨wb, hwb⟩ : ∃ wb, wz.alloc (.cells #[.int .i64 (v : Int)] 3) = wb := ⟨_, rfl⟩
                  have hbzb : Below wz.heap.size wz wb := by rw [← hwb]; exact (Below.refl wz.heap.size wz).alloc (Nat.le_refl _) _
                  have hkb : Bk wb wz.heap.size 3 [.int .i64 (v : Int)] := by rw [← hwb]; exact Bk.new wz _ _
                  have hofb : wb.ownsRow w3.heap.size 3 1 (.slice A5 nO cap5) nO (ivals (outO T k H)) := by rw [← hwb]; exact hofz.alloc _
                  have hrib := hrig.below hbzb
                  have hzb := hbzb.size
                  have hz13 : w3.heap.size ≤ wz.heap.size := by omega
                  have hnews : ∀ ad, (some ⟨wz.heap.size, 0, none⟩ : Option Addr) = some ad → ∀ j u, ([.int .i64 (v : Int)] : List Value)[j]? = some u → wb.cell? (ad.add j) = some u := fun ad e j u hj => by
                    injection e with e
                    subst e
                    rw [Addr.add_lit, Nat.zero_add]
                    exact (hkb.cell j).trans hj
                  have Hhriz := Lib.hid hriz; clear hriz; have Hhrig := Lib.hid hrig; clear hrig; have Hhofz := Lib.hid hofz; clear hofz; have Hhkb := Lib.hid hkb; clear hkb; have Hhofb := Lib.hid hofb; clear hofb; have Hhrib := Lib.hid hrib; clear hrib; have Hhnews := Lib.hid hnews; clear hnews; have Hhkz := Lib.hid hkz; clear hkz
                  go_wp2_with (at_builtin; refine wpList_append_opt rfl (.tmp 91) (.tmp 93) 28 rfl w3.heap.size Tryz.underlying28 info_int rfl (by decide) _ nO (ivals (outO T k H)) rfl Hhofb.out (some ⟨wz.heap.size, 0, none⟩) 1 1 [.int .i64 (v : Int)] rfl rfl (fun h => by cases h) Hhnews.out (by simp [Value.oneCell']) (by omega) (by decide) (by omega) ?_)
                  all_goals first | (exfalso; omega) | skip
                  intro v' w5 hown5 hgr5 hb35 hat5
                  clear hwb
                  obtain ⟨A6, cap6, rfl, hcap6⟩ := own_form hown5
                  have hivs : ivals (outO T k H) ++ [.int .i64 (v : Int)] = ivals (outO T k (parH T (l.map nm) v (j + 1))) := by rw [HhoS.out, ivals_snoc]
                  have hln6 : (outO T k (parH T (l.map nm) v (j + 1))).length = nO + 1 := by rw [HhoS.out, List.length_append, HhnO.out]; rfl
                  have hri7 : RInv w5 w2.heap.size w1.heap.size w3.heap.size T.length (k : Int) Ax capx (numE (k : Int) T (l.map nm) (parH T (l.map nm) v (j + 1))) (outO T k (parH T (l.map nm) v (j + 1))) A6 cap6 := by
                    have h9 := Hhrib.out.grow (O' := outO T k (parH T (l.map nm) v (j + 1))) (A5 := A6) (cap5 := cap6) (w' := w5) (by omega) (by omega) (by rw [HhnO.out]; exact hgr5) (by rw [hln6, ← hivs]; exact hown5)
                    rw [← Hp1.out] at h9
                    exact h9
                  have hb15 : Below w1.heap.size w1 w5 := (hbz.trans (hbzb.mono (by omega))).trans (hb35.mono (by omega))
                  have hz85 : ws.heap.size ≤ w5.heap.size := by have := hgr5.size; omega
                  have hof0 := Hhof5.out
                  rw [HhnO.out] at hof0
                  have hkF : ∀ g, wv.heap.size ≤ g → g < ws.heap.size → w5.heap[g]? = ws.heap[g]? := fun g h1 h2 =>
                    (hgr5.block g (by omega) (fun e => by have := hof0 g e.symm; omega)).trans ((hbzb.block g (by omega)).trans (Hhkz.out g h1 h2))
                  have hofF : ∀ g, (Value.slice A6 (outO T k (parH T (l.map nm) v (j + 1))).length cap6).ownBlock = some g → g < wv.heap.size ∨ ws.heap.size ≤ g := fun g e => by
                    rw [hln6] at e
                    rcases hat5 with h9 | h9
                    · exact hof0 g (h9.symm.trans e)
                    · rw [h9] at e
                      injection e with e
                      right; omega
                  have Hhown5 := Lib.hid hown5; clear hown5; have Hhgr5 := Lib.hid hgr5; clear hgr5; have Hhri7 := Lib.hid hri7; clear hri7; have HhkF := Lib.hid hkF; clear hkF; have HhofF := Lib.hid hofF; clear hofF; have Hhln6 := Lib.hid hln6; clear hln6; have Hhof0 := Lib.hid hof0; clear hof0; have Hhivs := Lib.hid hivs; clear hivs; have Hhat5 := Lib.hid hat5; clear hat5
                  go_wp2_with fail
                  exact ⟨⟨j + 1, nO + 1, A6, cap6, by omega, by omega, by simp, Hhln6.out, rfl, Hhri7.out, hb15, hz85, HhkF.out, HhofF.out⟩, by simp [intOf]; omega⟩
            · obtain rfl : j = S.length := by omega
              have hend := parH_end (C := l.map nm) Hhs.out hvN (j := S.length) (by rw [← Hhsec.out.1]; exact Nat.le_refl _)
              rw [hend] at hri5 hnO
              have Hhri5 := Lib.hid hri5; clear hri5; have Hhof5 := Lib.hid hof5; clear hof5; have Hhk5 := Lib.hid hk5; clear hk5; have Hhend := Lib.hid hend; clear hend; have HhnO := Lib.hid hnO; clear hnO
              go_wp2_with fail
              exact ⟨⟨v + 1, nO, A5, cap5, by omega, by simp, HhnO.out, rfl, Hhri5.out, hb5, by omega⟩, by simp [intOf]; omega⟩
        · obtain rfl : k = v := by omega
          have hO9 : newO (k : Int) T (l.map nm) = outO T k (exH T (l.map nm) k) := by rw [newO_eq, Int.toNat_natCast]
          have hX9 : newX (k : Int) T (l.map nm) = relab (numE (k : Int) T (l.map nm) (exH T (l.map nm) k)) T.length := by unfold newX; rw [newN_eq, Int.toNat_natCast]
          have hnl : (newO (k : Int) T (l.map nm)).length = n8 := by rw [hO9]; exact hn8
          have hn8l : n8 ≤ 10000 := by
            have h1 := outO_len T k (exH T (l.map nm) k)
            have h2 := exH_few (T := T) (C := l.map nm) k
            omega
          by_cases h4 : 4096 < n8
          · have hk2v := Hhk21.out.below hb1r (by omega)
            have q0 : wv.cell? ⟨w.heap.size + 1, 0, none⟩ = some (.int .i64 0) := hk2v.cell 0
            have q1 : wv.cell? ⟨w.heap.size + 1, 1, none⟩ = some (.slice none 0 0) := hk2v.cell 1
            have qf := hk2v.frozen
            have hkf2 := (hk2v.set 0 (.int .i64 0)).set 1 (.slice none 0 0)
            have hbv : Below w.heap.size w wv := hbel1.trans (hb1r.mono (by omega))
            have hbf2 := (hbv.setCell (p := ⟨w.heap.size + 1, 0, none⟩) (by show w.heap.size ≤ w.heap.size + 1; omega) (.int .i64 0)).setCell (p := ⟨w.heap.size + 1, 1, none⟩) (by show w.heap.size ≤ w.heap.size + 1; omega) (.slice none 0 0)
            have hres : AlongC (k : Int) T l 7 := .inr (.inr ⟨Hhs.out, Hhcl.out, .inr (.inl ⟨Hhidle.out, by rw [hnl]; exact h4, rfl⟩)⟩)
            have Hhri := Lib.hid hri; clear hri; have Hhkd := Lib.hid hkd; clear hkd; have Hhn8 := Lib.hid hn8; clear hn8; have HhO9 := Lib.hid hO9; clear hO9; have HhX9 := Lib.hid hX9; clear hX9; have Hhnl := Lib.hid hnl; clear hnl; have Hhk2v := Lib.hid hk2v; clear hk2v; have Hhkf2 := Lib.hid hkf2; clear hkf2; have Hhbf2 := Lib.hid hbf2; clear hbf2; have Hhres := Lib.hid hres; clear hres
            go_wp2_with fail
            exact ret_cttt rfl rfl Hhkf2.out Tryz.underlying24 rfl (by kernel_rfl) rfl ⟨⟨_, 7, rfl, Hhres.out, fun _ => rfl, fun h9 => absurd h9 (by decide)⟩, Hhbf2.out⟩
          · have hres0 : AlongC (k : Int) T l 0 := .inr (.inr ⟨Hhs.out, Hhcl.out, .inr (.inr ⟨Hhidle.out, by rw [hnl]; omega, rfl⟩)⟩)
            obtain ⟨sb, st, so⟩ := hri.inked (u := (n8 : Int)) (fun gx e => (Hhown.out.lt gx e).2) (by omega)
            have q0 : wv.cell? ⟨w2.heap.size, 0, none⟩ = some (.int .i64 (k : Int)) := hri.box.cell 0
            have qf := hri.box.frozen
            have hb5 := hb1r.setCell (p := ⟨w2.heap.size, 0, none⟩) (by show w1.heap.size ≤ w2.heap.size; omega) (.int .i64 (n8 : Int))
            obtain ⟨w5, hw5⟩ : ∃ w5, wv.setCell ⟨w2.heap.size, 0, none⟩ (.int .i64 (n8 : Int)) = w5 := ⟨_, rfl⟩
            have hz5v : wv.heap.size ≤ w5.heap.size := by rw [← hw5]; simp
            rw [hw5] at sb st so hb5
            rw [← hX9] at st
            rw [← hO9] at so
            have hXl : (newX (k : Int) T (l.map nm)).length = T.length := by rw [hX9, relab_len]
            have hX0 := hX9
            clear hX9
            generalize hX : newX (k : Int) T (l.map nm) = X at *
            have hslX : Sl 3 RTri w5 w5.heap.size (.slice Ax T.length capx) X := by
              have h9 : w5.ownsRow w1.heap.size 57 3 (.slice Ax T.length capx) X.length (flat3 X) := by rw [hXl]; exact st
              exact Sl.of_own h9 fun i a hi => flat3_at X i a hi
            have hz15 := hb5.size
            have hslT : Sl 3 RTri w5 w5.heap.size (.slice A T.length cap) T := HhTw.out.keep keeps_tri (hb5.mono (show B ≤ w1.heap.size by omega)) (show B ≤ w5.heap.size by omega)
            have hown0 : w5.ownsRow w5.heap.size 42 4 (.slice none 0 0) 0 (quad (parP T X (l.map nm) k 0 1)) := by rw [parP_start]; exact World.ownsRow_nil _ _ _ _
            have hp0 : (parP T X (l.map nm) k 0 1).length = 0 := by rw [parP_start]; rfl
            have hr5 := Below.refl w5.heap.size w5
            have hTy : ∀ wz, Below w5.heap.size w5 wz → Sl 3 RTri wz w5.heap.size (.slice A T.length cap) T := fun wz hz => hslT.below keeps_tri hz
            have hXy : ∀ wz, Below w5.heap.size w5 wz → Sl 3 RTri wz w5.heap.size (.slice Ax T.length capx) X := fun wz hz => hslX.below keeps_tri hz
            have hly : ∀ wz, Below w5.heap.size w5 wz → Sl 2 RPair wz B (.slice Al l.length capl) l := fun wz hz => Hhlz.out wz (hb5.trans (hz.mono hz15))
            have hky : ∀ wz, Below w5.heap.size w5 wz → Bk wz w.heap.size 24 [.int .i64 (k : Int), .slice A T.length cap] := fun wz hz => Hhkz.out wz (hb5.trans (hz.mono hz15))
            have hoy : ∀ wz, Below w5.heap.size w5 wz → Bk wz w2.heap.size 24 [.int .i64 (n8 : Int), .slice Ax T.length capx] := fun wz hz => sb.below hz sb.lt
            have Hhri := Lib.hid hri; clear hri; have Hhkd := Lib.hid hkd; clear hkd; have Hhn8 := Lib.hid hn8; clear hn8; have HhO9 := Lib.hid hO9; clear hO9; have HhX0 := Lib.hid hX0; clear hX0; have HhX := Lib.hid hX; clear hX; have HhXl := Lib.hid hXl; clear hXl; have Hhnl := Lib.hid hnl; clear hnl; have Hsb := Lib.hid sb; clear sb; have Hst := Lib.hid st; clear st; have Hso := Lib.hid so; clear so; have HhslX := Lib.hid hslX; clear hslX; have HhslT := Lib.hid hslT; clear hslT; have Hhown0 := Lib.hid hown0; clear hown0; have Hhp0 := Lib.hid hp0; clear hp0; have HhTy := Lib.hid hTy; clear hTy; have HhXy := Lib.hid hXy; clear hXy; have Hhly := Lib.hid hly; clear hly; have Hhky := Lib.hid hky; clear hky; have Hhoy := Lib.hid hoy; clear hoy; have Hhres0 := Lib.hid hres0; clear hres0
            go_wp2_with fail
            clear hw5
            go_loopw [18, 19] (fun pv av wr => ∃ (a np : Nat) (Ap : Option Addr) (capp : Nat), a ≤ k ∧ av = .int .i64 (a : Int) ∧ (parP T X (l.map nm) k a (a + 1)).length = np ∧ pv = .slice Ap np capp ∧ wr.ownsRow w5.heap.size 42 4 (.slice Ap np capp) np (quad (parP T X (l.map nm) k a (a + 1))) ∧ Below w5.heap.size w5 wr) (fun _ av _ => k - (intOf av).toNat)
            case atStart => exact ⟨0, 0, none, 0, by omega, rfl, Hhp0.out, rfl, Hhown0.out, hr5⟩
            case round =>
              obtain ⟨a, np, Ap, capp, ha, rfl, hnp, rfl, hop, hbr5⟩ := hrel
              obtain ⟨wa, hwa⟩ : ∃ wa, wa = wr := ⟨_, rfl⟩
              subst hwa
              have hza := hbr5.size
              have hkda := Hhky.out wa hbr5
              have s0 : wa.cell? ⟨w.heap.size, 0, none⟩ = some (.int .i64 (k : Int)) := hkda.cell 0
              by_cases hak : a < k
              · have Hhop := Lib.hid hop; clear hop; have Hhnp := Lib.hid hnp; clear hnp; have Hhkda := Lib.hid hkda; clear hkda
                go_wp2_with fail
                go_loopw [18, 20] (fun pv bv wr => ∃ (b np : Nat) (Ap : Option Addr) (capp : Nat), a + 1 ≤ b ∧ b ≤ k ∧ bv = .int .i64 (b : Int) ∧ (parP T X (l.map nm) k a b).length = np ∧ pv = .slice Ap np capp ∧ wr.ownsRow w5.heap.size 42 4 (.slice Ap np capp) np (quad (parP T X (l.map nm) k a b)) ∧ Below w5.heap.size w5 wr) (fun _ bv _ => k - (intOf bv).toNat)
                case atStart => exact ⟨a + 1, np, Ap, capp, by omega, by omega, by simp, Hhnp.out, rfl, Hhop.out, hbr5⟩
                case round =>
                  obtain ⟨b, np2, Ap2, capp2, hab, hbk, rfl, hnp2, rfl, hop2, hbr⟩ := hrel
                  obtain ⟨wb, hwb⟩ : ∃ wb, wb = wr := ⟨_, rfl⟩
                  subst hwb
                  have hzb := hbr.size
                  have hkdb := Hhky.out wb hbr
                  have s1 : wb.cell? ⟨w.heap.size, 0, none⟩ = some (.int .i64 (k : Int)) := hkdb.cell 0
                  by_cases hbk2 : b < k
                  · have hin := in19_calls (Hhly.out wb hbr) (show B ≤ wb.heap.size by omega) (by omega) ((a : Int), (b : Int))
                    have hne : nm ((a : Int), (b : Int)) = ((a : Int), (b : Int)) := by
                      unfold nm
                      exact Prod.ext (by simp only []; omega) (by simp only []; omega)
                    rw [hne] at hin
                    change Calls _ _ #[.slice Al l.length capl, .agg #[.int .i64 (a : Int), .int .i64 (b : Int)]] _ _ at hin
                    by_cases hm : ((a : Int), (b : Int)) ∈ l.map nm
                    · rw [decide_eq_true hm] at hin
                      obtain ⟨⟨c, hc⟩, d, hd⟩ := good_cut (clean_good Hhcl.out) hm
                      obtain ⟨hc3, hce⟩ := facing_some hc
                      obtain ⟨hd3, hde⟩ := facing_some hd
                      have hpe : pairE T X ((a : Int), (b : Int)) = (eg X c, eg X d) := by unfold pairE; rw [hc, hd]; rfl
                      have hyes := parP_yes (T := T) (X := X) (n := k) (show a < b by omega) hm
                      have hplen := parP_len (T := T) (X := X) (C := l.map nm) (n := k) (a := a) (b := b)
                      have hnp9 : np2 ≤ 20000000 := by
                        have h1 : a * k ≤ 4096 * 4096 := Nat.mul_le_mul (by omega) (by omega)
                        omega
                      have hca : Mesh.vt T (nx c) = (a : Int) := congrArg Prod.fst hce
                      have hcb : Mesh.vt T (pv c) = (b : Int) := congrArg Prod.snd hce
                      have hda : Mesh.vt T (nx d) = (b : Int) := congrArg Prod.fst hde
                      have hdb : Mesh.vt T (pv d) = (a : Int) := congrArg Prod.snd hde
                      have hw1 := fun wz (hz : Below w5.heap.size w5 wz) => with_calls (N := (k : Int)) (HhTy.out wz hz) hz.size (show T.length ≤ 8192 by omega) (a : Int) (b : Int)
                      have hw2 := fun wz (hz : Below w5.heap.size w5 wz) => with_calls (N := (k : Int)) (HhTy.out wz hz) hz.size (show T.length ≤ 8192 by omega) (b : Int) (a : Int)
                      have hn1 := fun wz (hz : Below w5.heap.size w5 wz) => now19_calls (M := (n8 : Int)) (HhTy.out wz hz) (HhXy.out wz hz) hz.size HhXl.out Hhs.out c hc3
                      have hn2 := fun wz (hz : Below w5.heap.size w5 wz) => now19_calls (M := (n8 : Int)) (HhTy.out wz hz) (HhXy.out wz hz) hz.size HhXl.out Hhs.out d hd3
                      have ho1 : oi ((dirc T (a : Int) (b : Int)).map (· / 3)) = ((c / 3 : Nat) : Int) := by
                        rw [Hhs.out.dirc_facing, hc]
                        show oi (some (nx c / 3)) = _
                        rw [nx_div]; rfl
                      have ho2 : oi ((dirc T (b : Int) (a : Int)).map (· / 3)) = ((d / 3 : Nat) : Int) := by
                        rw [Hhs.out.dirc_facing, hd]
                        show oi (some (nx d / 3)) = _
                        rw [nx_div]; rfl
                      simp only [ho1] at hw1
                      simp only [ho2] at hw2
                      simp only [hca, hcb] at hn1
                      simp only [hda, hdb] at hn2
                      have hpe2 : pairE T X ((a : Int), (b : Int)) = ((Mesh.vt X (nx c), Mesh.vt X (pv c)), (Mesh.vt X (nx d), Mesh.vt X (pv d))) := hpe
                      clear hpe ho1 ho2
                      generalize Mesh.vt X (nx c) = xa at *
                      generalize Mesh.vt X (pv c) = xb at *
                      generalize Mesh.vt X (nx d) = xc at *
                      generalize Mesh.vt X (pv d) = xd at *
                      generalize c / 3 = tc at *
                      generalize d / 3 = td at *
                      have hkp : Below wb.heap.size wb wb := Below.refl _ _
                      have Hhin := Lib.hid hin; clear hin; have Hhop2 := Lib.hid hop2; clear hop2; have Hhnp2 := Lib.hid hnp2; clear hnp2; have Hhkdb := Lib.hid hkdb; clear hkdb; have Hhyes := Lib.hid hyes; clear hyes; have Hhpe2 := Lib.hid hpe2; clear hpe2; have Hhplen := Lib.hid hplen; clear hplen; have Hhw1 := Lib.hid hw1; clear hw1; have Hhw2 := Lib.hid hw2; clear hw2; have Hhn1 := Lib.hid hn1; clear hn1; have Hhn2 := Lib.hid hn2; clear hn2; have Hhc := Lib.hid hc; clear hc; have Hhd := Lib.hid hd; clear hd; have Hhce := Lib.hid hce; clear hce; have Hhde := Lib.hid hde; clear hde; have Hhca := Lib.hid hca; clear hca; have Hhcb := Lib.hid hcb; clear hcb; have Hhda := Lib.hid hda; clear hda; have Hhdb := Lib.hid hdb; clear hdb; have Hhne := Lib.hid hne; clear hne
                      go_wp2_with fail
                      refine Hhin.out.mono ?_
                      rintro e w6 ⟨rfl, hb6⟩
                      have hbr6 : Below w5.heap.size w5 w6 := hbr.trans (hb6.mono hzb)
                      have hz6 := hbr6.size
                      have hkd6 := Hhky.out w6 hbr6
                      have f0 : w6.cell? ⟨w.heap.size, 0, none⟩ = some (.int .i64 (k : Int)) := hkd6.cell 0
                      have f1 : w6.cell? ⟨w.heap.size, 1, none⟩ = some (.slice A T.length cap) := hkd6.cell 1
                      have f0' : w6.drew.cell? ⟨w.heap.size, 0, none⟩ = some (.int .i64 (k : Int)) := f0
                      have f1' : w6.drew.cell? ⟨w.heap.size, 1, none⟩ = some (.slice A T.length cap) := f1
                      have hd6 := (Below.refl w6.heap.size w6).drew
                      have hbr6d := hbr6.drew
                      have hw1' := Hhw1.out w6.drew hbr6d
                      have Hhkd6 := Lib.hid hkd6; clear hkd6; have Hhw1' := Lib.hid hw1'; clear hw1'
                      go_wp2_with fail
                      refine Go.Canon.wp_region_tree [4] (fun b9 => b9 = w.heap.size) (.seg [0,1,2,4,5,6] (.alt 3 (.alt 7 (.seg [8,9] .fin) .no) .no)) mixed (by kernel_rfl) ?_
                      refine Go.Canon.tr_seg ?_
                      simp only [List.map_cons, List.map_nil, List.getD_cons_zero, List.getD_cons_succ]
                      go_wp2_with fail
                      refine Go.Canon.tr_to (Go.Canon.tr_one ?_)
                      simp only [List.getD_cons_zero, List.getD_cons_succ]
                      go_wp2_with fail
                      refine Hhw1'.out.mono ?_
                      rintro e w7 ⟨rfl, hb7⟩
                      have h67 := hd6.trans (hb7.mono hd6.size)
                      have hbr7 := hbr6.trans (h67.mono hz6)
                      have hw2' := Hhw2.out w7 hbr7
                      have Hhw2' := Lib.hid hw2'; clear hw2'
                      go_wp2_with fail
                      refine Go.Canon.tr_end (fun b9 h9 => by subst h9; exact h67.block _ (by omega)) (Go.Canon.tr_one ?_)
                      simp only [List.getD_cons_zero, List.getD_cons_succ]
                      go_wp2_with fail
                      refine Hhw2'.out.mono ?_
                      rintro e w8 ⟨rfl, hb8⟩
                      have h68 := h67.trans (hb8.mono h67.size)
                      have hbr8 := hbr6.trans (h68.mono hz6)
                      have hz8 := hbr8.size
                      have hkd8 := Hhky.out w8 hbr8
                      have hod8 := Hhoy.out w8 hbr8
                      have g0 : w8.cell? ⟨w.heap.size, 0, none⟩ = some (.int .i64 (k : Int)) := hkd8.cell 0
                      have g1 : w8.cell? ⟨w.heap.size, 1, none⟩ = some (.slice A T.length cap) := hkd8.cell 1
                      have j0 : w8.cell? ⟨w2.heap.size, 0, none⟩ = some (.int .i64 (n8 : Int)) := hod8.cell 0
                      have j1 : w8.cell? ⟨w2.heap.size, 1, none⟩ = some (.slice Ax T.length capx) := hod8.cell 1
                      have g0' : w8.drew.cell? ⟨w.heap.size, 0, none⟩ = some (.int .i64 (k : Int)) := g0
                      have g1' : w8.drew.cell? ⟨w.heap.size, 1, none⟩ = some (.slice A T.length cap) := g1
                      have j0' : w8.drew.cell? ⟨w2.heap.size, 0, none⟩ = some (.int .i64 (n8 : Int)) := j0
                      have j1' : w8.drew.cell? ⟨w2.heap.size, 1, none⟩ = some (.slice Ax T.length capx) := j1
                      have hd8 := (Below.refl w8.heap.size w8).drew
                      have hbr8d := hbr8.drew
                      have hn1' := Hhn1.out w8.drew hbr8d
                      have Hhkd8 := Lib.hid hkd8; clear hkd8; have Hhod8 := Lib.hid hod8; clear hod8; have Hhn1' := Lib.hid hn1'; clear hn1'
                      go_wp2_with fail
                      refine Go.Canon.tr_end (fun b9 h9 => by subst h9; exact h68.block _ (by omega)) (Go.Canon.tr_seg ?_)
                      simp only [List.map_cons, List.map_nil, List.getD_cons_zero, List.getD_cons_succ]
                      go_wp2_with fail
                      refine Go.Canon.tr_to (Go.Canon.tr_fin (by rfl) (List.forall_mem_cons.2 ⟨.inl ⟨_, rfl, rfl, by rw [World.cell?_drew, f0]; rfl⟩, fun _ h => by cases h⟩) ?_)
                      go_wp2_with fail
                      refine Go.Canon.wp_region_tree [7, 8] (fun b9 => b9 = w.heap.size ∨ b9 = w2.heap.size) (.seg [0,1,2,3,4,5,7,8,9,10,11] (.alt 6 (.alt 12 (.seg [13] (.alt 14 (.alt 15 (.seg [16] .fin) .no) .no)) .no) .no)) mixed (by kernel_rfl) ?_
                      refine Go.Canon.tr_seg ?_
                      simp only [List.map_cons, List.map_nil, List.getD_cons_zero, List.getD_cons_succ]
                      go_wp2_with fail
                      refine Go.Canon.tr_to (Go.Canon.tr_one ?_)
                      simp only [List.getD_cons_zero, List.getD_cons_succ]
                      go_wp2_with fail
                      refine Hhn1'.out.mono ?_
                      rintro e w9 ⟨rfl, hb9⟩
                      have h89 := hd8.trans (hb9.mono hd8.size)
                      have hbr9 := hbr8.trans (h89.mono hz8)
                      have hn2' := Hhn2.out w9 hbr9
                      have Hhn2' := Lib.hid hn2'; clear hn2'
                      go_wp2_with fail
                      refine Go.Canon.tr_end (fun b9 h9 => h89.block b9 (by rcases h9 with h9 | h9 <;> omega)) (Go.Canon.tr_one ?_)
                      simp only [List.getD_cons_zero, List.getD_cons_succ]
                      go_wp2_with fail
                      refine Hhn2'.out.mono ?_
                      rintro e w10 ⟨rfl, hb10⟩
                      have h810 := h89.trans (hb10.mono h89.size)
                      have hbr10 := hbr8.trans (h810.mono hz8)
                      have hz10 := hbr10.size
                      have hbb10 : Below wb.heap.size wb w10 := ((hb6.trans (h68.mono hb6.size)).trans (h810.mono (by have := hb6.size; have := h68.size; omega)))
                      have hop10 := own_below Hhop2.out hbb10 (Nat.le_refl _)
                      obtain ⟨wl, hwl⟩ : ∃ wl, w10.alloc (.cells #[.int .i64 xa, .int .i64 xb, .int .i64 xc, .int .i64 xd] 42) = wl := ⟨_, rfl⟩
                      have hkl : Bk wl w10.heap.size 42 [.int .i64 xa, .int .i64 xb, .int .i64 xc, .int .i64 xd] := by rw [← hwl]; exact Bk.new w10 _ _
                      have hopl : wl.ownsRow w5.heap.size 42 4 (.slice Ap2 np2 capp2) np2 (quad (parP T X (l.map nm) k a b)) := by rw [← hwl]; exact hop10.alloc _
                      have hbl : Below w10.heap.size w10 wl := by rw [← hwl]; exact (Below.refl w10.heap.size w10).alloc (Nat.le_refl _) _
                      have hzl := hbl.size
                      have h8l := h810.trans (hbl.mono h810.size)
                      have hbrl := hbr8.trans (h8l.mono hz8)
                      have hnews : ∀ ad, (some ⟨w10.heap.size, 0, none⟩ : Option Addr) = some ad → ∀ j u, ([.int .i64 xa, .int .i64 xb, .int .i64 xc, .int .i64 xd] : List Value)[j]? = some u → wl.cell? (ad.add j) = some u := fun ad e j u hj => by
                        injection e with e
                        subst e
                        rw [Addr.add_lit, Nat.zero_add]
                        exact (hkl.cell j).trans hj
                      have Hhop10 := Lib.hid hop10; clear hop10; have Hhkl := Lib.hid hkl; clear hkl; have Hhopl := Lib.hid hopl; clear hopl; have Hhnews := Lib.hid hnews; clear hnews
                      go_wp2_with fail
                      refine Go.Canon.tr_end (fun b9 h9 => h810.block b9 (by rcases h9 with h9 | h9 <;> omega)) (Go.Canon.tr_seg ?_)
                      simp only [List.map_cons, List.map_nil, List.getD_cons_zero, List.getD_cons_succ]
                      go_wp2_with fail
                      refine Go.Canon.tr_to (Go.Canon.tr_one ?_)
                      simp only [List.getD_cons_zero, List.getD_cons_succ]
                      go_wp2_with fail
                      refine Go.Canon.tr_end (fun b9 h9 => h8l.block b9 (by rcases h9 with h9 | h9 <;> omega)) (Go.Canon.tr_one ?_)
                      simp only [List.getD_cons_zero, List.getD_cons_succ]
                      go_wp2_with (at_builtin; refine wpList_append_opt rfl (.tmp 130) (.tmp 144) 33 rfl w5.heap.size Tryz.underlying33 infoPair19 rfl (by decide) _ np2 (quad (parP T X (l.map nm) k a b)) rfl Hhopl.out (some ⟨w10.heap.size, 0, none⟩) 1 1 [.int .i64 xa, .int .i64 xb, .int .i64 xc, .int .i64 xd] rfl rfl (fun h => by cases h) Hhnews.out (by simp [Value.oneCell']) (by omega) (by decide) (by omega) ?_)
                      intro v' w12 hown12 hgr12 hb12 _
                      clear hwl
                      obtain ⟨A12, cap12, rfl, hcap12⟩ := own_form hown12
                      have hq12 : quad (parP T X (l.map nm) k a b) ++ [.int .i64 xa, .int .i64 xb, .int .i64 xc, .int .i64 xd] = quad (parP T X (l.map nm) k a (b + 1)) := by rw [Hhyes.out, quad_snoc, Hhpe2.out]
                      have hl12 : (parP T X (l.map nm) k a (b + 1)).length = np2 + 1 := by rw [Hhyes.out, List.length_append, Hhnp2.out]; rfl
                      rw [hq12] at hown12
                      have hbr12 : Below w5.heap.size w5 w12 := hbrl.trans hb12
                      have hU12 : ∀ b9, b9 = w.heap.size ∨ b9 = w2.heap.size → w12.heap[b9]? = w8.drew.heap[b9]? := fun b9 h9 => (hb12.block b9 (by rcases h9 with h9 | h9 <;> omega)).trans (h8l.block b9 (by rcases h9 with h9 | h9 <;> omega))
                      have Hhown12 := Lib.hid hown12; clear hown12; have Hhgr12 := Lib.hid hgr12; clear hgr12; have Hhq12 := Lib.hid hq12; clear hq12; have Hhl12 := Lib.hid hl12; clear hl12; have HhU12 := Lib.hid hU12; clear hU12
                      go_wp2_with fail
                      refine Go.Canon.tr_end HhU12.out (Go.Canon.tr_seg ?_)
                      simp only [List.map_cons, List.map_nil, List.getD_cons_zero, List.getD_cons_succ]
                      go_wp2_with fail
                      refine Go.Canon.tr_to (Go.Canon.tr_fin (by rfl) (List.forall_mem_cons.2 ⟨.inl ⟨_, rfl, .inl rfl, by rw [World.cell?_drew, g0]; rfl⟩, List.forall_mem_cons.2 ⟨.inl ⟨_, rfl, .inr rfl, by rw [World.cell?_drew, j0]; rfl⟩, fun _ h => by cases h⟩⟩) ?_)
                      go_wp2_with fail
                      exact ⟨⟨b + 1, np2 + 1, A12, cap12, by omega, by omega, by simp, Hhl12.out, rfl, Hhown12.out, hbr12⟩, by simp [intOf]; omega⟩
                    · rw [decide_eq_false hm] at hin
                      have hno := parP_no (T := T) (X := X) (n := k) (show a < b by omega) hm
                      have Hhin := Lib.hid hin; clear hin; have Hhop2 := Lib.hid hop2; clear hop2; have Hhnp2 := Lib.hid hnp2; clear hnp2; have Hhkdb := Lib.hid hkdb; clear hkdb; have Hhno := Lib.hid hno; clear hno
                      go_wp2_with fail
                      refine Hhin.out.mono ?_
                      rintro e w6 ⟨rfl, hb6⟩
                      have hbr6 := hbr.trans (hb6.mono hzb)
                      have hop6 := own_below Hhop2.out hb6 (Nat.le_refl _)
                      rw [← Hhno.out] at hop6
                      have hnp6 := Hhnp2.out
                      rw [← Hhno.out] at hnp6
                      have Hhop6 := Lib.hid hop6; clear hop6; have Hhnp6 := Lib.hid hnp6; clear hnp6
                      go_wp2_with fail
                      exact ⟨⟨b + 1, np2, Ap2, capp2, by omega, by omega, by simp, Hhnp6.out, rfl, Hhop6.out, hbr6⟩, by simp [intOf]; omega⟩
                  · obtain rfl : b = k := by omega
                    have hnx := parP_next (T := T) (X := X) (C := l.map nm) (n := b) (a := a)
                    rw [← hnx] at hop2 hnp2
                    have Hhop2 := Lib.hid hop2; clear hop2; have Hhnp2 := Lib.hid hnp2; clear hnp2; have Hhkdb := Lib.hid hkdb; clear hkdb; have Hhnx := Lib.hid hnx; clear hnx
                    go_wp2_with fail
                    exact ⟨⟨a + 1, np2, Ap2, capp2, by omega, by simp, Hhnp2.out, rfl, Hhop2.out, hbr⟩, by simp [intOf]; omega⟩
              · obtain rfl : k = a := by omega
                have hbA := hbel1.trans ((hb5.trans (hbr5.mono hz15)).mono (by omega))
                have hk2a := Hhk21.out.below (hb5.trans (hbr5.mono hz15)) (by omega)
                have r0 : wa.cell? ⟨w.heap.size + 1, 0, none⟩ = some (.int .i64 0) := hk2a.cell 0
                have r1 : wa.cell? ⟨w.heap.size + 1, 1, none⟩ = some (.slice none 0 0) := hk2a.cell 1
                have rf := hk2a.frozen
                have hoa := Hhoy.out wa hbr5
                have o0 : wa.cell? ⟨w2.heap.size, 0, none⟩ = some (.int .i64 (n8 : Int)) := hoa.cell 0
                have o1 : wa.cell? ⟨w2.heap.size, 1, none⟩ = some (.slice Ax T.length capx) := hoa.cell 1
                have hkF := (hk2a.set 0 (.int .i64 n8)).set 1 (.slice Ax T.length capx)
                have hbF := (hbA.setCell (p := ⟨w.heap.size + 1, 0, none⟩) (by show w.heap.size ≤ w.heap.size + 1; omega) (.int .i64 n8)).setCell (p := ⟨w.heap.size + 1, 1, none⟩) (by show w.heap.size ≤ w.heap.size + 1; omega) (.slice Ax T.length capx)
                have hend : AlongEnd ((wa.setCell ⟨w.heap.size + 1, 0, none⟩ (.int .i64 n8)).setCell ⟨w.heap.size + 1, 1, none⟩ (.slice Ax T.length capx)) (k : Int) T l (.tuple #[.agg #[.int .i64 (n8 : Int), .slice Ax T.length capx], .slice A8 n8 cap8, .slice Ap np capp, .int .i64 0]) 0 := by
                  have hs := Hhs.out
                  have x1 : ((wa.setCell ⟨w.heap.size + 1, 0, none⟩ (.int .i64 n8)).setCell ⟨w.heap.size + 1, 1, none⟩ (.slice Ax T.length capx)).ownsRow w1.heap.size 57 3 (.slice Ax T.length capx) X.length (flat3 X) := by
                    rw [HhXl.out]
                    exact own_lowset (own_lowset (own_below Hst.out hbr5 (Nat.le_refl _)) (by omega)) (by omega)
                  have x2 : ((wa.setCell ⟨w.heap.size + 1, 0, none⟩ (.int .i64 n8)).setCell ⟨w.heap.size + 1, 1, none⟩ (.slice Ax T.length capx)).ownsRow w3.heap.size 3 1 (.slice A8 n8 cap8) (newO (k : Int) T (l.map nm)).length (ivals (newO (k : Int) T (l.map nm))) := by
                    have h9 := Hso.out
                    have h8 := Hhnl.out
                    rw [h8] at h9 ⊢
                    exact own_lowset (own_lowset (own_below h9 hbr5 (Nat.le_refl _)) (by omega)) (by omega)
                  have hC : ∀ e ∈ l.map nm, e.1 < e.2 → ∃ c, c < 3 * T.length ∧ e = ek T c := fun e he _ => by
                    obtain ⟨⟨c, hc⟩, _⟩ := good_cut (clean_good Hhcl.out) he
                    obtain ⟨hc3, hce⟩ := facing_some hc
                    refine ⟨nx c, nx_lt hc3, ?_⟩
                    rw [ek_eg, hce]
                    obtain ⟨e0, _, rfl⟩ := List.mem_map.1 he
                    exact (nm_nm e0).symm
                  have hP := cut_all hs hs.edges_are hC
                  rw [Int.toNat_natCast] at hP
                  have hPe := parP_end (T := T) (X := X) (C := l.map nm) (n := k)
                  rw [hP] at hPe
                  have x3 : ((wa.setCell ⟨w.heap.size + 1, 0, none⟩ (.int .i64 n8)).setCell ⟨w.heap.size + 1, 1, none⟩ (.slice Ax T.length capx)).ownsRow w5.heap.size 42 4 (.slice Ap np capp) (parP T X (l.map nm) k k (k + 1)).length (quad (parP T X (l.map nm) k k (k + 1))) := by
                    rw [hnp]
                    exact own_lowset (own_lowset hop (by omega)) (by omega)
                  refine ⟨Hhres0.out, fun h9 => absurd rfl h9, fun _ => ⟨.slice Ax T.length capx, .slice A8 n8 cap8, .slice Ap np capp, _, by rw [Hhnl.out], ?_, Sl.of_own x2 fun i a hi => ivals_rep _ i a hi, hs.edges_are, ?_⟩⟩
                  · rw [HhX.out]
                    exact Sl.of_own x1 fun i a hi => flat3_at X i a hi
                  · unfold pairsL
                    rw [HhX.out]
                    rw [hPe] at x3
                    exact Sl.of_own x3 fun i a hi => quad_at _ i a hi
                have Hhop := Lib.hid hop; clear hop; have Hhnp := Lib.hid hnp; clear hnp; have Hhkda := Lib.hid hkda; clear hkda; have Hhk2a := Lib.hid hk2a; clear hk2a; have Hhoa := Lib.hid hoa; clear hoa; have HhkF := Lib.hid hkF; clear hkF; have HhbF := Lib.hid hbF; clear hbF; have Hhend := Lib.hid hend; clear hend
                go_wp2_with fail
                refine ret_cttt rfl rfl HhkF.out Tryz.underlying24 rfl (by kernel_rfl) rfl ?_
                exact ⟨⟨_, 0, rfl, Hhend.out⟩, HhbF.out⟩
end Go.Proofs.YtpbdcppaiafbgaaGreat
