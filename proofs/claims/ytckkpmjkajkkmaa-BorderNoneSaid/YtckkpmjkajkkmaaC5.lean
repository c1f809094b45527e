/- Walks: certify's pairs. -/
import Derived.Test.YtckkpmjkajkkmaaC4
import Derived.Test.YtckkpmjkajkkmaaKeys
import Derived.Test.YtckkpmjkajkkmaaMap3
namespace Go.Words
open Go Go.RowKit
theorem Bk.kept_own {w w' : World} {g base n size : Nat} {t e : TypeId} {cs xs : List Value} {v : Value} (h : Bk w g t cs) (hown : w.ownsRow base e size v n xs) (hne : e ≠ t) (hg : w.grownBy w' v.ownBlock) : Bk w' g t cs := by
  refine h.grown hg fun he => ?_
  rcases hown.2 with ⟨rfl, _⟩ | ⟨g', cap', cur', rfl, _, hh, _⟩
  · simp [Value.ownBlock] at he
  · have : g = g' := by simpa [Value.ownBlock] using he
    subst this
    unfold Bk at h
    rw [h] at hh
    injection hh with h2
    injection h2 with _ h3
    exact hne h3.symm
theorem Bk.kept_map {w w' : World} {g b : Nat} {t : TypeId} {cs : List Value} {κ α : Type} {enc : κ → Value} {ok : κ → Prop} {ev : α → Value} {l : List (κ × α)} (h : Bk w g t cs) (hm : Mp enc ok ev w b l) (hg : w.grownBy w' (some b)) : Bk w' g t cs := by
  refine h.grown hg fun he => ?_
  injection he with he
  subst he
  obtain ⟨es, clock, hb, _⟩ := hm.block
  unfold Bk at h
  rw [h] at hb
  cases hb
theorem Mp.kept_own {w w' : World} {b base n size : Nat} {e : TypeId} {xs : List Value} {v : Value} {κ α : Type} {enc : κ → Value} {ok : κ → Prop} {ev : α → Value} {l : List (κ × α)} (h : Mp enc ok ev w b l) (hown : w.ownsRow base e size v n xs) (hg : w.grownBy w' v.ownBlock) : Mp enc ok ev w' b l :=
  h.grown hg (h.no_row hown)
theorem own_kept_map {w w' : World} {b base n size : Nat} {e : TypeId} {xs : List Value} {v : Value} {κ α : Type} {enc : κ → Value} {ok : κ → Prop} {ev : α → Value} {l : List (κ × α)} (hown : w.ownsRow base e size v n xs) (h : Mp enc ok ev w b l) (hg : w.grownBy w' (some b)) : w'.ownsRow base e size v n xs :=
  hown.kept hg (.inr fun e => h.no_row hown e.symm)
theorem GRows.kept_map {w w' : World} {b base : Nat} {e : TypeId} {κ κ' α : Type} {lm : List (κ' × Value)} {G : List (κ' × List Nat)} {enc : κ → Value} {ok : κ → Prop} {ev : α → Value} {l : List (κ × α)} (h : GRows w base e lm G) (hm : Mp enc ok ev w b l) (hg : w.grownBy w' (some b)) : GRows w' base e lm G := by
  obtain ⟨es, clock, hb, _⟩ := hm.block
  exact h.kept hg (h.fam.not_map hb)
theorem GRows.kept_own {w w' : World} {base base' size n : Nat} {e e' : TypeId} {κ' : Type} {lm : List (κ' × Value)} {G : List (κ' × List Nat)} {v : Value} {xs : List Value} (h : GRows w base e lm G) (hown : w.ownsRow base' e' size v n xs) (hne : e' ≠ e) (hg : w.grownBy w' v.ownBlock) : GRows w' base e lm G := by
  rcases hown.2 with ⟨rfl, _⟩ | ⟨g', cap', cur', rfl, _, hh, _⟩
  · exact h.kept hg fun i hi => by
      cases hv : ((lm.map Prod.snd)[i]'hi).ownBlock with
      | none => exact .inl rfl
      | some k => right; simp [Value.ownBlock]
  · exact h.kept hg (h.fam.not_type hh hne)
theorem Mp.kept_map {w w' : World} {b b' : Nat} {κ α κ' α' : Type} {enc : κ → Value} {ok : κ → Prop} {ev : α → Value} {l : List (κ × α)} {enc' : κ' → Value} {ok' : κ' → Prop} {ev' : α' → Value} {l' : List (κ' × α')} (h : Mp enc ok ev w b l) (_ : Mp enc' ok' ev' w b' l') (hne : b ≠ b') (hg : w.grownBy w' (some b')) : Mp enc ok ev w' b l :=
  h.grown hg fun e => by injection e with e; exact hne e
end Go.Words
namespace Go.Proofs.Ytckkpmjkajkkmaa
open Go Go.RowKit Go.Words Go.Mesh

theorem rowOf_nil {κ : Type} [DecidableEq κ] (x : κ) : rowOf ([] : List (κ × List Nat)) x = [] := rfl
theorem info_int : (Try.prog.info? 3).map (fun i => (i.zero, i.size, i.bytes)) = some (some (.int .i64 0), 1, 8) := by kernel_rfl
theorem nodup_snoc {α : Type} (l : List α) (y : α) : (l ++ [y]).Nodup ↔ l.Nodup ∧ y ∉ l := by
  rw [List.nodup_append]
  constructor
  · rintro ⟨h8, _, h9⟩
    exact ⟨h8, fun hm => h9 _ hm _ (List.mem_singleton.2 rfl) rfl⟩
  · rintro ⟨h8, h9⟩
    refine ⟨h8, by simp, fun a ha c hc e => ?_⟩
    have : c = y := by simpa using hc
    subst this; subst e
    exact h9 ha
def evT : Unit → Value := fun _ => .bool true
/-- What certify's pairs holds: the groups by key, what was seen, the witnesses. -/
structure PS (w : World) (h0 n : Nat) (kind : Int) (ks : List T3) (L : List T3) (S : List ((Int × Int) × Unit)) (lm : List (T3 × Value)) (G : List (T3 × List Nat)) : Prop where
  had : Mp enc3 ok3 id w (h0 + 1) lm
  rows : GRows w (h0 + 3) 3 lm G
  seen : Mp enc2 ok2 evT w (h0 + 2) S
  len : S.length = L.length
  keys : ∀ x, rowOf G x = [] ↔ x ∉ ks
  mem : ∀ x, (rowOf G x).length ≤ ks.length ∧ ∀ a ∈ rowOf G x, a < n
  good : L = [] ↔ ks.Nodup
  kinds : ∀ x ∈ L, x.1 = kind
  le : L.length ≤ ks.length * ks.length
theorem PS.below {w w' : World} {h0 n : Nat} {kind : Int} {ks L : List T3} {S : List ((Int × Int) × Unit)} {lm : List (T3 × Value)} {G : List (T3 × List Nat)} (h : PS w h0 n kind ks L S lm G) (hb : Below w.heap.size w w') : PS w' h0 n kind ks L S lm G :=
  { h with had := h.had.below hb h.had.lt, rows := h.rows.below hb (Nat.le_refl _), seen := h.seen.below hb h.seen.lt }
theorem PS.alloc {w : World} {h0 n : Nat} {kind : Int} {ks L : List T3} {S : List ((Int × Int) × Unit)} {lm : List (T3 × Value)} {G : List (T3 × List Nat)} (h : PS w h0 n kind ks L S lm G) (o : Obj) : PS (w.alloc o) h0 n kind ks L S lm G :=
  h.below ((Below.refl _ _).alloc (Nat.le_refl _) o)

set_option maxRecDepth 20000 in
set_option maxHeartbeats 4000000 in
theorem pairs_calls (g : Nat) (hgf : g = 104 ∨ g = 105) (kind : Int) (keysF : T3 → List T3) (v : Value) (N : Int) (T : List T3) (w : World) {B : Nat} (hB0 : B ≤ w.heap.size) (h : Sl 3 RTri w B v T) (p3 : T.length ≤ 8192)
    (hk : ∀ t w, t ∈ T → Calls Try.prog g #[enc3 t] w fun e w' => (∃ gk, e = .returned (.slice (some ⟨gk, 0, none⟩) (keysF t).length (keysF t).length) ∧ Bk w' gk 54 (flat3 (keysF t))) ∧ Below w.heap.size w w')
    (h3 : ∀ t, (keysF t).length ≤ 3) (hok : ∀ t ∈ T, ∀ x ∈ keysF t, ok3 x) :
    Calls Try.prog 103 #[.agg #[.int .i64 N, v], .int .i64 kind, .func (.func g) #[] #[]] w fun e w' => (∃ v', e = .returned v' ∧ Wits w' w.heap.size v' kind (T.flatMap keysF).Nodup) ∧ Below w.heap.size w w' := by
  obtain ⟨A, cap, rfl, hcap⟩ := h.form
  have hb1 := (((Below.refl w.heap.size w).alloc (Nat.le_refl _) (.cells #[.int .i64 N, .slice A T.length cap] 24)).alloc (by simp) (.map #[] 0)).alloc (by simp; omega) (.map #[] 0)
  have hmm := @run_makeMap Try.prog
  have m1 := (Mp.new' (enc := enc3) (ok := ok3) (ev := (id : Value → Value)) (κ := T3) (n := w.heap.size + 1) (w := w.alloc (.cells #[.int .i64 N, .slice A T.length cap] 24)) (by simp)).alloc (.map #[] 0)
  have m2 := Mp.new' (enc := enc2) (ok := ok2) (ev := evT) (κ := Int × Int) (n := w.heap.size + 2) (w := (w.alloc (.cells #[.int .i64 N, .slice A T.length cap] 24)).alloc (.map #[] 0)) (by simp)
  have hps : PS (((w.alloc (.cells #[.int .i64 N, .slice A T.length cap] 24)).alloc (.map #[] 0)).alloc (.map #[] 0)) w.heap.size T.length kind [] [] [] [] [] :=
    { had := m1, rows := GRows.nil _ _ _, seen := m2, len := rfl, keys := fun x => by rw [rowOf_nil]; simp, mem := fun x => by rw [rowOf_nil]; simp, good := by simp, kinds := by simp, le := by simp }
  clear m1 m2
  have Hh := Lib.hid h; clear h; have Hhps := Lib.hid hps; clear hps; have Hhk := Lib.hid hk; clear hk; have Hhok := Lib.hid hok; clear hok
  rcases hgf with rfl | rfl
  all_goals
    go_enter Try.func103, Try.ntmps103
    go_wp2
    clear hmm
    go_loopw [7, 22] (fun l i wr => ∃ (k : Nat) (L : List T3) (S : List ((Int × Int) × Unit)) (lm : List (T3 × Value)) (G : List (T3 × List Nat)), k ≤ T.length ∧ i = .int .i64 k ∧ wr.ownsRow (w.heap.size + 3) 61 3 l L.length (flat3 L) ∧
        PS wr w.heap.size T.length kind ((T.take k).flatMap keysF) L S lm G ∧ ((T.take k).flatMap keysF).length ≤ 3 * k ∧ Below w.heap.size w wr)
      (fun _ i _ => T.length - (intOf i).toNat)
    case atStart => exact ⟨0, [], [], [], [], by omega, rfl, World.ownsRow_nil _ _ _ _, by simpa using Hhps.out, by simp, hb1⟩
    case round =>
      obtain ⟨k, L, S, lm, G, hk9, rfl, hown, hps, hkl, hbel⟩ := hrel
      have hz := hbel.size
      have hz2 : w.heap.size + 2 < wr.heap.size := hps.seen.lt
      by_cases hlt : k < T.length
      · obtain ⟨b, o, rfl, hb, c1, c2, c3⟩ := (Hh.out.below keeps_tri (hbel.mono hB0)).tri_at hlt
        have htk : T.take (k + 1) = T.take k ++ [T[k]] := List.take_succ_eq_append_getElem hlt
        have hkT := fun w => Hhk.out T[k] w (List.getElem_mem hlt)
        have hokT := Hhok.out T[k] (List.getElem_mem hlt)
        have hk3 := h3 T[k]
        generalize hx : T[k] = x at *
        have hkeysS : (T.take (k + 1)).flatMap keysF = (T.take k).flatMap keysF ++ keysF x := by rw [htk, List.flatMap_append]; simp
        obtain ⟨x1, x2, x3⟩ := x
        simp only [] at c1 c2 c3
        generalize keysF (x1, x2, x3) = ys at *
        generalize hks0 : (T.take k).flatMap keysF = ks0 at *
        obtain ⟨A5, cap5, rfl, hcap5⟩ := own_form hown
        have hbw : b < wr.heap.size := by omega
        have hbA := hbel.alloc hz (.cells #[.int .i64 x1, .int .i64 x2, .int .i64 x3] 55)
        have hpsA := hps.alloc (.cells #[.int .i64 x1, .int .i64 x2, .int .i64 x3] 55)
        have hownA := hown.alloc (.cells #[.int .i64 x1, .int .i64 x2, .int .i64 x3] 55)
        have Hhown := Lib.hid hown; clear hown; have Hhps := Lib.hid hps; clear hps; have Hhtk := Lib.hid htk; clear htk; have Hhx := Lib.hid hx; clear hx; have HhkT := Lib.hid hkT; clear hkT; have HhokT := Lib.hid hokT; clear hokT; have HhkeysS := Lib.hid hkeysS; clear hkeysS; have Hhks0 := Lib.hid hks0; clear hks0; have HhpsA := Lib.hid hpsA; clear hpsA; have HhownA := Lib.hid hownA; clear hownA
        go_wp2_with fail
        refine (HhkT.out _).mono ?_
        rintro e w1 ⟨⟨gk, rfl, hgk⟩, hb9⟩
        have hbel1 := below_call hbA hb9 hbA.size
        have hz1 := hbel1.size
        have hps1 := HhpsA.out.below hb9
        have hown1 := own_below HhownA.out hb9 (Nat.le_refl _)
        have hz3 := hps1.seen.lt
        clear c1 c2 c3
        have Hhgk := Lib.hid hgk; clear hgk; have Hhps1 := Lib.hid hps1; clear hps1; have Hhown1 := Lib.hid hown1; clear hown1
        go_wp2
        obtain ⟨wo, hwo⟩ : ∃ wo : World, wo = w1 := ⟨_, rfl⟩
        go_loopw [7, 31] (fun l i wi => ∃ (m : Nat) (L : List T3) (S : List ((Int × Int) × Unit)) (lm : List (T3 × Value)) (G : List (T3 × List Nat)), m ≤ ys.length ∧ i = .int .i64 m ∧ wi.ownsRow (w.heap.size + 3) 61 3 l L.length (flat3 L) ∧
            PS wi w.heap.size T.length kind (ks0 ++ ys.take m) L S lm G ∧ Bk wi gk 54 (flat3 ys) ∧ Below w.heap.size w wi)
          (fun _ i _ => ys.length - (intOf i).toNat)
        case atStart => exact ⟨0, L, S, lm, G, by omega, rfl, Hhown1.out, by simpa using Hhps1.out, Hhgk.out, hbel1⟩
        case round =>
          clear hwo wo
          obtain ⟨m, L, S, lm, G, hm, rfl, hown, hps, hbk, hbel⟩ := hrel
          have hz := hbel.size
          have hz2 := hps.seen.lt
          by_cases hltm : m < ys.length
          · obtain ⟨b', o', hA', hb', c1, c2, c3⟩ := (block_tris (cap := ys.length) hbk (Nat.le_refl _)).tri_at hltm
            injection hA' with hA'
            injection hA' with e1 e2
            subst e1; subst e2
            simp only [Nat.zero_add] at c1 c2 c3
            have hoky := HhokT.out ys[m] (List.getElem_mem hltm)
            have htm : ys.take (m + 1) = ys.take m ++ [ys[m]] := List.take_succ_eq_append_getElem hltm
            generalize hy : ys[m] = y at *
            obtain ⟨y1, y2, y3⟩ := y
            simp only [] at c1 c2 c3
            have hkey := hps.keys (y1, y2, y3)
            have hmem := hps.mem (y1, y2, y3)
            obtain ⟨Av, capv, hv, hcapv⟩ := own_form (hps.rows.row (y1, y2, y3))
            generalize hg : rowOf G (y1, y2, y3) = grp at *
            have hv2 : ((Words.look lm (y1, y2, y3)).map id).getD (.slice none 0 0) = .slice Av grp.length capv := by rw [show ∀ o : Option Value, o.map id = o from fun o => by cases o <;> rfl]; exact hv
            have hM : (ks0 ++ ys.take m).length ≤ 3 * k + m := by rw [List.length_append, List.length_take]; omega
            have hML : L.length ≤ 603979776 := Nat.le_trans hps.le (Nat.le_trans (Nat.mul_le_mul (Nat.le_trans hM (show 3 * k + m ≤ 24576 by omega)) (Nat.le_trans hM (show 3 * k + m ≤ 24576 by omega))) (by omega))
            have hgl : grp.length ≤ (ks0 ++ ys.take m).length := hmem.1
            have hgl2 : grp.length ≤ 24576 := by omega
            obtain ⟨A6, cap6, rfl, hcap6⟩ := own_form hown
            have hbA := hbel.alloc hz (.cells #[.int .i64 y1, .int .i64 y2, .int .i64 y3] 54)
            have hpsA := hps.alloc (.cells #[.int .i64 y1, .int .i64 y2, .int .i64 y3] 54)
            have hownA := hown.alloc (.cells #[.int .i64 y1, .int .i64 y2, .int .i64 y3] 54)
            have hbkA := hbk.alloc (.cells #[.int .i64 y1, .int .i64 y2, .int .i64 y3] 54)
            have hgy := Bk.new wr 54 [.int .i64 y1, .int .i64 y2, .int .i64 y3]
            have hmp := hpsA.had
            have Hhown := Lib.hid hown; clear hown; have Hhps := Lib.hid hps; clear hps; have Hhbk := Lib.hid hbk; clear hbk; have Hhoky := Lib.hid hoky; clear hoky; have Hhtm := Lib.hid htm; clear htm; have Hhy := Lib.hid hy; clear hy; have Hhkey := Lib.hid hkey; clear hkey; have Hhmem := Lib.hid hmem; clear hmem; have Hhv := Lib.hid hv; clear hv; have Hhg := Lib.hid hg; clear hg; have Hhv2 := Lib.hid hv2; clear hv2; have HhpsA := Lib.hid hpsA; clear hpsA; have HhownA := Lib.hid hownA; clear hownA; have HhbkA := Lib.hid hbkA; clear hbkA; have Hhgy := Lib.hid hgy; clear hgy; have Hhmp := Lib.hid hmp; clear hmp
            go_wp2_with (at_lookup; refine wpList_look _ rfl _ _ 109 rfl 54 28 key3 Try.underlying109 zero_row (w.heap.size + 1) lm rfl Hhmp.out (y1, y2, y3) rfl Hhoky.out ?_; rw [Hhv2.out])
            obtain ⟨wo, hwo⟩ : ∃ wo : World, wo = wr.alloc (.cells #[.int .i64 y1, .int .i64 y2, .int .i64 y3] 54) := ⟨_, rfl⟩
            have hzo : wr.heap.size + 1 ≤ wo.heap.size := by rw [hwo]; simp
            rw [← hwo] at hbA HhpsA HhownA HhbkA Hhgy Hhmp ⊢
            clear hwo c1 c2 c3
            obtain ⟨gy, hgy9⟩ : ∃ gy, gy = wr.heap.size := ⟨_, rfl⟩
            rw [← hgy9] at Hhgy ⊢
            have hgy2 : w.heap.size + 3 ≤ gy := by omega
            clear hgy9
            go_loopw [7, 39] (fun l i wi => ∃ (j : Nat) (L' : List T3) (S' : List ((Int × Int) × Unit)), j ≤ grp.length ∧ i = .int .i64 j ∧ wi.ownsRow (w.heap.size + 3) 61 3 l L'.length (flat3 L') ∧
                Mp enc3 ok3 id wi (w.heap.size + 1) lm ∧ GRows wi (w.heap.size + 3) 3 lm G ∧ Mp enc2 ok2 evT wi (w.heap.size + 2) S' ∧ S'.length = L'.length ∧ (L' = [] ↔ L = [] ∧ j = 0) ∧ (∀ x ∈ L', x.1 = kind) ∧ L'.length ≤ L.length + j ∧
                Bk wi gk 54 (flat3 ys) ∧ Bk wi gy 54 [.int .i64 y1, .int .i64 y2, .int .i64 y3] ∧ Below w.heap.size w wi)
              (fun _ i _ => grp.length - (intOf i).toNat)
            case atStart => exact ⟨0, L, S, by omega, rfl, HhownA.out, HhpsA.out.had, HhpsA.out.rows, HhpsA.out.seen, HhpsA.out.len, by simp, HhpsA.out.kinds, by omega, HhbkA.out, Hhgy.out, hbA⟩
            case round =>
              obtain ⟨j, L', S', hj, rfl, hown, hhad, hrows, hseen, hlen, hgood, hkinds, hle, hbk, hgy, hbel⟩ := hrel
              have hz := hbel.size
              have hz2 := hseen.lt
              obtain ⟨A7, cap7, rfl, hcap7⟩ := own_form hown
              by_cases hltj : j < grp.length
              · have hrow := hrows.row (y1, y2, y3)
                rw [Hhv.out, Hhg.out] at hrow
                obtain ⟨b2, o2, rfl, hb2, c1⟩ := (ints_own hrow).int_at (k := j) (by simpa using hltj)
                rw [List.getElem_map] at c1
                have ha := Hhmem.out.2 _ (List.getElem_mem hltj)
                generalize grp[j] = a at *
                have hokp : ok2 ((a : Int), (k : Int)) := ⟨I64.nat (by omega), I64.nat (by omega)⟩
                have hseenA := hseen.alloc (.cells #[.int .i64 a, .int .i64 k] 68)
                have hhadA := hhad.alloc (.cells #[.int .i64 a, .int .i64 k] 68)
                have hownA := hown.alloc (.cells #[.int .i64 a, .int .i64 k] 68)
                have hrowsA := hrows.below ((Below.refl _ _).alloc (Nat.le_refl _) (.cells #[.int .i64 a, .int .i64 k] 68)) (Nat.le_refl _)
                have hbkA := hbk.alloc (.cells #[.int .i64 a, .int .i64 k] 68)
                have hgyA := hgy.alloc (.cells #[.int .i64 a, .int .i64 k] 68)
                have hbA := hbel.alloc hz (.cells #[.int .i64 a, .int .i64 k] 68)
                cases hsn : (Words.look S' ((a : Int), (k : Int))).isSome
                case true =>
                  have hs2 : ((Words.look S' ((a : Int), (k : Int))).map evT).getD (.bool false) = .bool true := by
                    obtain ⟨u, hu⟩ := Option.isSome_iff_exists.1 hsn
                    rw [hu]; rfl
                  have hL' : L' ≠ [] := by
                    intro h0
                    rw [h0] at hlen
                    have : S' = [] := List.eq_nil_of_length_eq_zero hlen
                    rw [this] at hsn
                    cases hsn
                  have hgood2 : L' = [] ↔ L = [] ∧ j + 1 = 0 := ⟨fun h9 => absurd h9 hL', fun h9 => by omega⟩
                  have Hhown := Lib.hid hown; clear hown; have Hhhad := Lib.hid hhad; clear hhad; have Hhrows := Lib.hid hrows; clear hrows; have Hhseen := Lib.hid hseen; clear hseen; have Hhgood := Lib.hid hgood; clear hgood; have Hhkinds := Lib.hid hkinds; clear hkinds; have Hhbk := Lib.hid hbk; clear hbk; have Hhgy := Lib.hid hgy; clear hgy; have Hhrow := Lib.hid hrow; clear hrow; have Hhokp := Lib.hid hokp; clear hokp; have HhseenA := Lib.hid hseenA; clear hseenA; have HhhadA := Lib.hid hhadA; clear hhadA; have HhownA := Lib.hid hownA; clear hownA; have HhrowsA := Lib.hid hrowsA; clear hrowsA; have HhbkA := Lib.hid hbkA; clear hbkA; have HhgyA := Lib.hid hgyA; clear hgyA; have Hhsn := Lib.hid hsn; clear hsn; have Hhs2 := Lib.hid hs2; clear hs2; have HhL' := Lib.hid hL'; clear hL'; have Hhgood2 := Lib.hid hgood2; clear hgood2
                  go_wp2_with (at_lookup; refine wpList_look _ rfl _ _ 110 rfl 68 4 key2 Try.underlying110 zero_bool (w.heap.size + 2) S' rfl HhseenA.out ((a : Int), (k : Int)) rfl Hhokp.out ?_; rw [Hhs2.out])
                  exact ⟨⟨j + 1, L', S', by omega, by simp, HhownA.out, HhhadA.out, HhrowsA.out, HhseenA.out, hlen, Hhgood2.out, Hhkinds.out, by omega, HhbkA.out, HhgyA.out, hbA⟩, by simp [intOf]; omega⟩
                case false =>
                  have hs2 : ((Words.look S' ((a : Int), (k : Int))).map evT).getD (.bool false) = .bool false := by
                    rw [Option.isSome_eq_false_iff, Option.isNone_iff_eq_none] at hsn
                    rw [hsn]; rfl
                  have hsl : (Words.put S' ((a : Int), (k : Int)) ()).length = S'.length + 1 := length_put_new _ (by rw [← look_isSome, hsn]; simp)
                  have hgood2 : L' ++ [(kind, (a : Int), (k : Int))] = [] ↔ L = [] ∧ j + 1 = 0 := ⟨fun h9 => by simp at h9, fun h9 => by omega⟩
                  have hkinds2 : ∀ x ∈ L' ++ [(kind, (a : Int), (k : Int))], x.1 = kind := by
                    intro x hx
                    rcases List.mem_append.1 hx with h9 | h9
                    · exact hkinds x h9
                    · have : x = (kind, (a : Int), (k : Int)) := by simpa using h9
                      rw [this]
                  have Hhown := Lib.hid hown; clear hown; have Hhhad := Lib.hid hhad; clear hhad; have Hhrows := Lib.hid hrows; clear hrows; have Hhseen := Lib.hid hseen; clear hseen; have Hhgood := Lib.hid hgood; clear hgood; have Hhkinds := Lib.hid hkinds; clear hkinds; have Hhbk := Lib.hid hbk; clear hbk; have Hhgy := Lib.hid hgy; clear hgy; have Hhrow := Lib.hid hrow; clear hrow; have Hhokp := Lib.hid hokp; clear hokp; have HhseenA := Lib.hid hseenA; clear hseenA; have HhhadA := Lib.hid hhadA; clear hhadA; have HhownA := Lib.hid hownA; clear hownA; have HhrowsA := Lib.hid hrowsA; clear hrowsA; have HhbkA := Lib.hid hbkA; clear hbkA; have HhgyA := Lib.hid hgyA; clear hgyA; have Hhsn := Lib.hid hsn; clear hsn; have Hhs2 := Lib.hid hs2; clear hs2; have Hhsl := Lib.hid hsl; clear hsl; have Hhgood2 := Lib.hid hgood2; clear hgood2; have Hhkinds2 := Lib.hid hkinds2; clear hkinds2
                  go_wp2_with (first
                    | (at_lookup; refine wpList_look _ rfl _ _ 110 rfl 68 4 key2 Try.underlying110 zero_bool (w.heap.size + 2) S' rfl HhseenA.out ((a : Int), (k : Int)) rfl Hhokp.out ?_; rw [Hhs2.out])
                    | (at_mapUpdate; refine wpList_put _ rfl _ _ _ 110 rfl 68 4 key2 Try.underlying110 (w.heap.size + 2) S' rfl HhseenA.out ((a : Int), (k : Int)) rfl Hhokp.out () rfl ?_; intro w2 hseen2 hgr2 hsz2; have hb2 := hbA.grown hgr2 (by simp; omega) (fun q hq => by cases hq; omega); have hz9 := hb2.size; have hsz3 : wr.heap.size + 1 ≤ w2.heap.size := (by rw [hsz2]; simp); have Hhseen2 := Lib.hid hseen2; clear hseen2; have Hhgr2 := Lib.hid hgr2; clear hgr2; clear hsz2)
                    | (at_builtin; refine append_block _ rfl (.tmp 52) (.tmp 57) 93 rfl (w.heap.size + 3) info_wit Try.underlying93 rfl (by omega) _ L'.length (flat3 L') rfl ((own_kept_map HhownA.out HhseenA.out Hhgr2.out).alloc _) w2.heap.size [.int .i64 kind, .int .i64 a, .int .i64 k] rfl (Bk.new _ _ _) rfl (by simp [Value.oneCell']) (by omega) (by omega) (by simp; omega) ?_; intro v1 w3 hown3 hb9 hgr3 _; have Hhown3 := Lib.hid hown3; clear hown3; have Hhgr3 := Lib.hid hgr3; clear hgr3))
                  have hownC := (own_kept_map HhownA.out HhseenA.out Hhgr2.out).alloc (.cells #[.int .i64 kind, .int .i64 a, .int .i64 k] 61)
                  have hbn := (Below.refl w2.heap.size w2).alloc (Nat.le_refl _) (.cells #[.int .i64 kind, .int .i64 a, .int .i64 k] 61)
                  exact ⟨⟨j + 1, _, _, by omega, by simp, by rw [flat3_snoc, List.length_append]; exact Hhown3.out, ((HhhadA.out.kept_map HhseenA.out (by omega) Hhgr2.out).alloc _).kept_own hownC Hhgr3.out, ((HhrowsA.out.kept_map HhseenA.out Hhgr2.out).below hbn (Nat.le_refl _)).kept_own hownC (by decide) Hhgr3.out,
                    (Hhseen2.out.alloc _).kept_own hownC Hhgr3.out, by rw [Hhsl.out, List.length_append, hlen]; rfl, Hhgood2.out, Hhkinds2.out, by simp; omega, ((HhbkA.out.kept_map HhseenA.out Hhgr2.out).alloc _).kept_own hownC (by decide) Hhgr3.out, ((HhgyA.out.kept_map HhseenA.out Hhgr2.out).alloc _).kept_own hownC (by decide) Hhgr3.out,
                    (hb2.alloc hz9 _).trans (hb9.mono (by omega))⟩, by simp [intOf]; omega⟩
              · have hjl : j = grp.length := by omega
                subst hjl
                have hrow := hrows.row (y1, y2, y3)
                rw [Hhv.out, Hhg.out] at hrow
                have hhadA := hhad.alloc (.cells #[.int .i64 k] 3)
                have hseenA := hseen.alloc (.cells #[.int .i64 k] 3)
                have hownA := hown.alloc (.cells #[.int .i64 k] 3)
                have hrowA := hrow.alloc (.cells #[.int .i64 k] 3)
                have hrowsA := hrows.below ((Below.refl _ _).alloc (Nat.le_refl _) (.cells #[.int .i64 k] 3)) (Nat.le_refl _)
                have hbkA := hbk.alloc (.cells #[.int .i64 k] 3)
                have hlit := Bk.new wr 3 [.int .i64 k]
                have hbA := hbel.alloc hz (.cells #[.int .i64 k] 3)
                have hv3 : id ((Words.look lm (y1, y2, y3)).getD (.slice none 0 0)) = .slice Av grp.length capv := Hhv.out
                have hv4 : Words.valOf (Words.ent lm (y1, y2, y3) (.slice none 0 0)) (y1, y2, y3) = .slice Av grp.length capv := by unfold Words.valOf; rw [look_ent]; exact Hhv.out
                have d0 : wr.cell? ⟨gy, 0, none⟩ = some (.int .i64 y1) := hgy.cell 0
                have d1 : wr.cell? ⟨gy, 1, none⟩ = some (.int .i64 y2) := hgy.cell 1
                have d2 : wr.cell? ⟨gy, 2, none⟩ = some (.int .i64 y3) := hgy.cell 2
                have hgyl := hgy.lt
                have Hhown := Lib.hid hown; clear hown; have Hhhad := Lib.hid hhad; clear hhad; have Hhrows := Lib.hid hrows; clear hrows; have Hhseen := Lib.hid hseen; clear hseen; have Hhgood := Lib.hid hgood; clear hgood; have Hhkinds := Lib.hid hkinds; clear hkinds; have Hhbk := Lib.hid hbk; clear hbk; have Hhgy := Lib.hid hgy; clear hgy; have Hhrow := Lib.hid hrow; clear hrow; have HhhadA := Lib.hid hhadA; clear hhadA; have HhseenA := Lib.hid hseenA; clear hseenA; have HhownA := Lib.hid hownA; clear hownA; have HhrowA := Lib.hid hrowA; clear hrowA; have HhrowsA := Lib.hid hrowsA; clear hrowsA; have HhbkA := Lib.hid hbkA; clear hbkA; have Hhlit := Lib.hid hlit; clear hlit; have Hhv3 := Lib.hid hv3; clear hv3; have Hhv4 := Lib.hid hv4; clear hv4
                go_wp2_with (first
                  | (at_builtin; refine append_block _ rfl (.tmp 62) (.tmp 64) 28 rfl (w.heap.size + 3) info_int Try.underlying28 rfl (by omega) _ grp.length (grp.map encI) rfl (own_kept_map HhrowA.out HhhadA.out Hhgr2.out) wr.heap.size [.int .i64 k] rfl (Hhlit.out.kept_map HhhadA.out Hhgr2.out) rfl (by simp [Value.oneCell']) (by omega) (by omega) (by omega) ?_; intro v1 w3 hown3 hb9 hgr3 hat3; have Hhown3 := Lib.hid hown3; clear hown3; have Hhgr3 := Lib.hid hgr3; clear hgr3; have Hhat3 := Lib.hid hat3; clear hat3)
                  | (refine wpList_entry _ rfl _ _ 109 rfl 54 28 key3 Try.underlying109 (.slice none 0 0) zero_row (w.heap.size + 1) lm rfl HhhadA.out (y1, y2, y3) rfl Hhoky.out ?_; intro st w2 hhad2 hst2 hgr2 hsz2; have hb2 := hbA.grown hgr2 (by simp; omega) (fun q hq => by cases hq; omega); have hz9 := hb2.size; have hsz3 : wr.heap.size + 1 ≤ w2.heap.size := (by rw [hsz2]; simp); rw [Hhv3.out]; have Hhhad2 := Lib.hid hhad2; clear hhad2; have Hhst2 := Lib.hid hst2; clear hst2; have Hhgr2 := Lib.hid hgr2; clear hgr2; clear hsz2)
                  | (refine wpList_stamp _ rfl _ _ _ 109 rfl 54 key3 (w.heap.size + 1) (Words.ent lm (y1, y2, y3) (.slice none 0 0)) rfl (Hhhad2.out.kept_own (own_kept_map HhrowA.out HhhadA.out Hhgr2.out) Hhgr3.out) (y1, y2, y3) st (Hhst2.out.grown Hhgr3.out (Hhhad2.out.no_row (own_kept_map HhrowA.out HhhadA.out Hhgr2.out))) rfl Hhoky.out v1 rfl ?_; intro w4 hhad4 hgr4 hsz4; have Hhhad4 := Lib.hid hhad4; clear hhad4; have Hhgr4 := Lib.hid hgr4; clear hgr4; clear hsz4))
                have own2 := own_kept_map HhrowA.out HhhadA.out Hhgr2.out
                have had3 := Hhhad2.out.kept_own own2 Hhgr3.out
                have l2 := own_kept_map HhownA.out HhhadA.out Hhgr2.out
                have l3 := l2.kept Hhgr3.out (own_apart own2 l2 (by decide))
                have rows2 := (HhrowsA.out.kept_map HhhadA.out Hhgr2.out).ent (y1, y2, y3)
                have seen2 := HhseenA.out.kept_map HhhadA.out (by omega) Hhgr2.out
                have bk2 := HhbkA.out.kept_map HhhadA.out Hhgr2.out
                have hL9 : (grp ++ [k]).map encI = grp.map encI ++ [.int .i64 (k : Int)] := by rw [List.map_append]; rfl
                have rows3 := rows2.put (x := (y1, y2, y3)) (v' := v1) (L' := grp ++ [k]) ((ent_keys G _ _ _).2 (.inl rfl)) (by rw [hL9, List.length_append]; exact Hhown3.out) (by rw [Hhv4.out]; exact Hhgr3.out) (by
                  rw [Hhv4.out]
                  exact Hhat3.out.imp id fun h9 => ⟨_, h9, Nat.le_refl _⟩)
                have e2 := nodup_snoc (ks0 ++ ys.take m) (y1, y2, y3)
                have hgoodN : L' = [] ↔ (ks0 ++ ys.take (m + 1)).Nodup := by
                  rw [Hhtm.out, ← List.append_assoc, e2, Hhgood.out, Hhps.out.good, ← Hhkey.out, List.length_eq_zero_iff]
                have hrowE : ∀ x, rowOf (Words.ent G (y1, y2, y3) []) x = rowOf G x := fun x => by unfold Words.rowOf; rw [look_ent]
                have hks1 : (ks0 ++ ys.take (m + 1)).length = (ks0 ++ ys.take m).length + 1 := by rw [Hhtm.out, ← List.append_assoc, List.length_append (bs := [_])]; rfl
                refine ⟨⟨m + 1, L', S', _, _, by omega, by simp, own_kept_map l3 had3 Hhgr4.out, { had := Hhhad4.out, rows := rows3.kept_map had3 Hhgr4.out, seen := (seen2.kept_own own2 Hhgr3.out).kept_map had3 (by omega) Hhgr4.out, len := hlen, keys := fun x => ?_, mem := fun x => ?_, good := hgoodN, kinds := Hhkinds.out, le := ?_ },
                  (bk2.kept_own own2 (by decide) Hhgr3.out).kept_map had3 Hhgr4.out, ((hb2.trans (hb9.mono (by omega))).grown Hhgr4.out (by have := hb9.size; omega) (fun q hq => by cases hq; omega))⟩, by simp [intOf]; omega⟩
                · rw [rowOf_put, hrowE, Hhtm.out, ← List.append_assoc]
                  by_cases hxy : (y1, y2, y3) = x
                  · subst hxy; simp
                  · rw [if_neg hxy, Hhps.out.keys x]
                    simp only [List.mem_append, List.mem_singleton, not_or]
                    exact ⟨fun h9 => ⟨h9, fun e => hxy e.symm⟩, fun h9 => h9.1⟩
                · rw [rowOf_put, hrowE, hks1]
                  by_cases hxy : (y1, y2, y3) = x
                  · rw [if_pos hxy]
                    refine ⟨by have := Hhmem.out.1; rw [List.length_append]; simp only [List.length_cons, List.length_nil]; omega, fun a ha => ?_⟩
                    rcases List.mem_append.1 ha with h9 | h9
                    · exact Hhmem.out.2 a h9
                    · have : a = k := by simpa using h9
                      omega
                  · rw [if_neg hxy]
                    have := Hhps.out.mem x
                    exact ⟨by omega, this.2⟩
                · rw [hks1]
                  have h8 := Hhps.out.le
                  have e9 : ((ks0 ++ ys.take m).length + 1) * ((ks0 ++ ys.take m).length + 1) = (ks0 ++ ys.take m).length * (ks0 ++ ys.take m).length + 2 * (ks0 ++ ys.take m).length + 1 := by
                    rw [Nat.add_mul, Nat.mul_add]; omega
                  omega
          · have hml : m = ys.length := by omega
            subst hml
            rw [List.take_length] at hps
            rw [← HhkeysS.out] at hps
            have Hhown := Lib.hid hown; clear hown; have Hhps := Lib.hid hps; clear hps; have Hhbk := Lib.hid hbk; clear hbk
            go_wp2
            have hks9 : ((T.take (k + 1)).flatMap keysF).length ≤ 3 * (k + 1) := by rw [HhkeysS.out, List.length_append]; omega
            exact ⟨⟨k + 1, L, S, lm, G, by omega, by simp, Hhown.out, Hhps.out, hks9, hbel⟩, by simp [intOf]; omega⟩
      · have hkl2 : k = T.length := by omega
        subst hkl2
        rw [List.take_length] at hps hkl
        have hle : L.length ≤ 603979776 := Nat.le_trans hps.le (Nat.le_trans (Nat.mul_le_mul (Nat.le_trans hkl (show 3 * T.length ≤ 24576 by omega)) (Nat.le_trans hkl (show 3 * T.length ≤ 24576 by omega))) (by omega))
        have Hhown := Lib.hid hown; clear hown; have Hhps := Lib.hid hps; clear hps
        go_wp2
        go_ret
        exact ⟨⟨_, rfl, L, own_base Hhown.out (by omega), Hhps.out.good, Hhps.out.kinds, hle⟩, hbel⟩
end Go.Proofs.Ytckkpmjkajkkmaa
