/- The law RingTurned, walked. -/
import Derived.Test.YtckkpmjkajkkmaaTW
import Derived.Test.YtckkpmjkajkkmaaVE
namespace Go.Proofs.Ytckkpmjkajkkmaa
open Go Go.RowKit Go.Words Go.Mesh

set_option maxRecDepth 100000 in
set_option maxHeartbeats 2000000 in
theorem turned_law (sv : Value) (N : Int) (T : List T3) (v : Int) (w : World) {B : Nat} (hB0 : B ≤ w.heap.size) (hT : Sl 3 RTri w B sv T) (hN : I64 N) :
    Calls Try.prog 11 #[.agg #[.int .i64 N, sv], .int .i64 v] w fun e w' => e = .returned (.bool true) ∧ Below w.heap.size w w' := by
  obtain ⟨A, cap, rfl, hcap⟩ := hT.form
  have hb1 := (Below.refl w.heap.size w).alloc (Nat.le_refl _) (.cells #[.int .i64 N, .slice A T.length cap] 24)
  have hbox := Bk.new w 24 [.int .i64 N, .slice A T.length cap]
  have hTA := hT.below keeps_tri (hb1.mono hB0)
  have hbl := hbox.lt
  have c0 := hbox.cell 0
  have c1 := hbox.cell 1
  simp only [List.getElem?_cons_zero, List.getElem?_cons_succ] at c0 c1
  generalize hw0 : w.alloc (.cells #[.int .i64 N, .slice A T.length cap] 24) = w0 at *
  have haw := awake_calls w0
  have hz0 := hb1.size
  have HhT := Lib.hid hT; have Hhbox := Lib.hid hbox; have HhTA := Lib.hid hTA; have Hhaw := Lib.hid haw; clear hT hbox hTA haw
  go_enter Try.func11, Try.ntmps11
  go_wp2_with fail
  clear hw0
  refine Hhaw.out.mono ?_
  rintro e w1 ⟨rfl, hb2⟩
  have hb3 := below_call hb1 hb2 hb1.size
  have d0 : w1.cell? ⟨w.heap.size, 0, none⟩ = some (.int .i64 N) := (hb2.cell (p := ⟨w.heap.size, 0, none⟩) hbl).trans c0
  have d1 : w1.cell? ⟨w.heap.size, 1, none⟩ = some (.slice A T.length cap) := (hb2.cell (p := ⟨w.heap.size, 1, none⟩) hbl).trans c1
  have hT1 := HhTA.out.below keeps_tri (hb2.mono (by omega))
  have hz1 := hb2.size
  have htb := table_calls hT1 (by omega) hN
  have HhT1 := Lib.hid hT1; have Hhtb := Lib.hid htb; clear hT1 htb
  go_wp2_with fail
  refine Hhtb.out.mono ?_
  intro e w2 htd
  obtain ⟨pv, B', N', T', rfl, hs, htab, hb4, hor⟩ := tabled_tab htd
  have hb5 := below_call hb3 hb4 hb3.size
  have hz2 := hb4.size
  rcases hor with ⟨rfl, rfl, rfl, -⟩ | ⟨g, rfl, rfl, rfl, hsm⟩
  · have Hhtd := Lib.hid htd; have Hhs := Lib.hid hs; have Hhtab := Lib.hid htab; clear htd hs htab
    go_wp2_with fail
    go_ret
    exact ⟨rfl, hb5⟩
  · have e0 : w2.cell? ⟨w.heap.size, 0, none⟩ = some (.int .i64 N') := (hb4.cell (p := ⟨w.heap.size, 0, none⟩) (by show w.heap.size < _; omega)).trans d0
    have e1 : w2.cell? ⟨w.heap.size, 1, none⟩ = some (.slice A T'.length cap) := (hb4.cell (p := ⟨w.heap.size, 1, none⟩) (by show w.heap.size < _; omega)).trans d1
    have hT2 := HhT1.out.below keeps_tri (hb4.mono (by omega))
    have hlen := hs.ring_len v
    have h40 := hsm.1
    have hbw2 : w.heap.size < w2.heap.size := by omega
    clear c0 c1 d0 d1 hb1 hb2 hb3 hb4 hz0 hz1 hz2 hbl
    by_cases hv : 0 ≤ v ∧ v < N'
    case neg =>
      have hv2 : v < 0 ∨ (0 ≤ v ∧ N' ≤ v) := by omega
      clear hv
      have Hhtd := Lib.hid htd; have Hhs := Lib.hid hs; have Hhtab := Lib.hid htab; have HhT2 := Lib.hid hT2; have Hhsm := Lib.hid hsm; clear htd hs htab hT2 hsm
      rcases hv2 with hv2 | ⟨hv2, hv3⟩
      · go_wp2_with fail
        go_ret
        exact ⟨rfl, hb5⟩
      · go_wp2_with fail
        go_ret
        exact ⟨rfl, hb5⟩
    case pos =>
      obtain ⟨hv1, hv2⟩ := hv
      have hle := htab.le
      have hmi := mirror_calls (N := N') hT2 (by omega) hs.tmax
      have hmi : Calls Try.prog 49 #[.agg #[.int .i64 N', .slice A T'.length cap]] w2 fun e w' => (∃ r, e = .returned (.agg #[.int .i64 N', r]) ∧ Sl 3 RTri w' w'.heap.size r (mir T')) ∧ Below w2.heap.size w2 w' := by
        refine hmi.mono ?_
        rintro e w' ⟨⟨r, h1, h2⟩, h3⟩
        rw [← mir_len T'] at h2
        exact ⟨⟨r, h1, sl_own_tris h2⟩, h3⟩
      have hsm' := hs.mir
      have hK0 := fun t => link_mir hs ⟨hv1, hv2⟩ (t := t)
      have hlm := link_len_mir hs ⟨hv1, hv2⟩
      have hin9 := inner_mir hs ⟨hv1, hv2⟩
      have hmem9 := link_mem_mir hs ⟨hv1, hv2⟩
      have hndm := link_nodup hsm' ⟨hv1, hv2⟩
      have hkl := link_len hs ⟨hv1, hv2⟩
      have hrl := (hs.ring_in ⟨hv1, hv2⟩).1
      have hkpos : 0 < (linkAt T' N' v).length := by omega
      have hkle : (linkAt T' N' v).length ≤ 100 := by
        rw [hkl]; split <;> omega
      obtain ⟨xl, hxl⟩ : ∃ xl : Int, (linkAt T' N' v)[(linkAt T' N' v).length - 1]? = some xl := ⟨_, List.getElem?_eq_getElem (by omega)⟩
      obtain ⟨t, ht⟩ : ∃ t : Nat, (linkAt (mir T') N' v)[t]? = some xl := List.mem_iff_getElem?.1 ((hmem9 xl).2 (List.mem_of_getElem? hxl))
      have htl : t < (linkAt T' N' v).length := by have := (List.getElem?_eq_some_iff.1 ht).1; omega
      obtain ⟨ht0, hback⟩ := hK0 t (by rw [ht, hxl]) htl
      have huniq : ∀ (i : Nat) (x : Int), (linkAt (mir T') N' v)[i]? = some x → (x = xl ↔ i = t) := fun i x hi => by
        constructor
        · intro e
          subst e
          obtain ⟨h1, h2⟩ := List.getElem?_eq_some_iff.1 hi
          obtain ⟨h3, h4⟩ := List.getElem?_eq_some_iff.1 ht
          exact (List.getElem_inj hndm).1 (h2.trans h4.symm)
        · intro e
          subst e
          rw [ht] at hi
          exact (Option.some.inj hi).symm
      have hlk := fun wz (hz : TabN wz B' (.pointer (some g)) N' T') => link_calls hz hs v
      have hin := fun wz (hz : TabN wz B' (.pointer (some g)) N' T') => inner_calls hz hs v
      have hlku := fun wz Bz pz (hz : TabN wz Bz pz N' (mir T')) => link_calls hz hsm' v
      have hinu := fun wz Bz pz (hz : TabN wz Bz pz N' (mir T')) => inner_calls hz hsm' v
      rw [hin9] at hinu
      generalize hK : linkAt T' N' v = K9 at *
      generalize hM : linkAt (mir T') N' v = M9 at *
      generalize hI : innerAt T' N' v = I9 at *
      clear hK0 hmem9 hndm hrl hkl
      have Hhtd := Lib.hid htd; have Hhs := Lib.hid hs; have Hhtab := Lib.hid htab; have HhT2 := Lib.hid hT2; have Hhsm := Lib.hid hsm; have Hhmi := Lib.hid hmi; have Hhsm' := Lib.hid hsm'; have Hhlm := Lib.hid hlm; have Hhin9 := Lib.hid hin9; have Hht := Lib.hid ht; have Hht0 := Lib.hid ht0; have Hhback := Lib.hid hback; have Hhuniq := Lib.hid huniq; have Hhlk := Lib.hid hlk; have Hhin := Lib.hid hin; have Hhlku := Lib.hid hlku; have Hhinu := Lib.hid hinu; have Hhxl := Lib.hid hxl; have HhK := Lib.hid hK; have HhM := Lib.hid hM; have HhI := Lib.hid hI; clear htd hs htab hT2 hsm hmi hsm' hlm hin9 ht ht0 hback huniq hlk hin hlku hinu hxl hK hM hI
      go_wp2_with fail
      refine Hhmi.out.mono ?_
      rintro e w3 ⟨⟨r3, rfl, hsl3⟩, hb6⟩
      have hz3 := hb6.size
      have hnew := new_calls r3 N' (mir T') w3 (Nat.le_refl _) hsl3 hN
      have Hhsl3 := Lib.hid hsl3; have Hhnew := Lib.hid hnew; clear hsl3 hnew
      go_wp2_with fail
      refine Hhnew.out.mono ?_
      rintro e w4 ⟨⟨pv, x, y, z, rfl, hor⟩, hb7⟩
      have hz4 := hb7.size
      rcases hor with ⟨-, htu⟩ | ⟨hns, -⟩
      case inr => exact absurd Hhsm'.out hns
      obtain ⟨g2, rfl⟩ : ∃ t, pv = .pointer (some t) := by
        obtain ⟨g, _, _, _, _, _, rfl, _⟩ := htu
        exact ⟨_, rfl⟩
      have hb8 := hb6.trans (hb7.mono hz3)
      have hA := (Below.refl w4.heap.size w4).alloc (Nat.le_refl _) (.cells #[.int .i64 x, .int .i64 y, .int .i64 z] 61)
      have hb9 := hb8.alloc hb8.size (.cells #[.int .i64 x, .int .i64 y, .int .i64 z] 61)
      have htu5 : TabN _ w4.heap.size (.pointer (some g2)) N' (mir T') := TabN.below (.inl htu) hA (Nat.le_refl _)
      have htt5 := Hhtab.out.below (hb9.mono hle) (Nat.le_refl _)
      have hz5 := hb9.size
      generalize hwa : w4.alloc (.cells #[.int .i64 x, .int .i64 y, .int .i64 z] 61) = wa at *
      have hz45 : w4.heap.size ≤ wa.heap.size := hA.size
      have h9 := Hhlk.out _ htt5
      have Hhtu := Lib.hid htu; have Hhtu5 := Lib.hid htu5; have Hhtt5 := Lib.hid htt5; have HhA := Lib.hid hA; have Hh9 := Lib.hid h9; clear htu htu5 htt5 hA h9
      go_wp2_with fail
      clear hwa
      refine Hh9.out.mono ?_
      rintro e w5 ⟨⟨rK, rfl, hoK⟩, hb10⟩
      have hz6 := hb10.size
      have hB5 := hb9.trans (hb10.mono hz5)
      have h10 := Hhlku.out w5 _ _ (Hhtu5.out.below (hb10.mono hz45) (Nat.le_refl _))
      have HhoK := Lib.hid hoK; have Hh10 := Lib.hid h10; clear hoK h10
      go_wp2_with fail
      refine Hh10.out.mono ?_
      rintro e w6 ⟨⟨rM, rfl, hoM⟩, hb11⟩
      have hz7 := hb11.size
      have hB6 := hB5.trans (hb11.mono hB5.size)
      have hbu6 := hb10.trans (hb11.mono hz6)
      have hoK6 := own_below HhoK.out hb11 (Nat.le_refl _)
      obtain ⟨AK, capK, rfl, hcK⟩ := own_form hoK6
      obtain ⟨AM, capM, rfl, hcM⟩ := own_form hoM
      obtain ⟨gK, rfl⟩ := own_addr hoK6 hkpos
      obtain ⟨gM, rfl⟩ := own_addr hoM (by have := Hhlm.out; omega)
      have hi1 := Hhin.out w6 (Hhtab.out.below (hB6.mono hle) (Nat.le_refl _))
      have hlmi : (M9.length : Int) = (K9.length : Int) := by have := Hhlm.out; omega
      have hk0 : ((K9.length : Int) == 0) = false := by rw [beq_eq_false_iff_ne]; omega
      rw [Hhlm.out] at hoM ⊢
      have HhoM := Lib.hid hoM; have HhoK6 := Lib.hid hoK6; have Hhi1 := Lib.hid hi1; have Hhlmi := Lib.hid hlmi; clear hoM hoK6 hi1 hlmi
      go_wp2_with fail
      refine Hhi1.out.mono ?_
      rintro e w7 ⟨rfl, hb12⟩
      have hz8 := hb12.size
      have hB7 := hB6.trans (hb12.mono hB6.size)
      have hbu7 := hbu6.trans (hb12.mono hbu6.size)
      have hi2 := Hhinu.out w7 _ _ (Hhtu5.out.below (hbu7.mono hz45) (Nat.le_refl _))
      have Hhi2 := Lib.hid hi2; clear hi2
      go_wp2_with fail
      refine Hhi2.out.mono ?_
      rintro e w8 ⟨rfl, hb13⟩
      have hB8 := hB7.trans (hb13.mono hB7.size)
      have hoK8 := own_below HhoK6.out (hb12.trans (hb13.mono hz8)) (Nat.le_refl _)
      have hoM8 := own_below HhoM.out (hb12.trans (hb13.mono hz8)) (Nat.le_refl _)
      have hfinal := below_call hb5 hB8 hb5.size
      have hMc : ∀ (i : Nat) (x : Int), M9[i]? = some x → ∀ wz, Below w8.heap.size w8 wz → wz.cell? ⟨gM, i, none⟩ = some (.int .i64 x) := fun i x hx wz hwz => by
        obtain ⟨h1, h2⟩ := List.getElem?_eq_some_iff.1 hx
        rw [← h2]
        exact (own_int_at (own_below hoM8 hwz (Nat.le_refl _)) Hhlm.out h1).1
      have hKc : ∀ (i : Nat) (x : Int), K9[i]? = some x → ∀ wz, Below w8.heap.size w8 wz → wz.cell? ⟨gK, i, none⟩ = some (.int .i64 x) := fun i x hx wz hwz => by
        obtain ⟨h1, h2⟩ := List.getElem?_eq_some_iff.1 hx
        rw [← h2]
        exact (own_int_at (own_below hoK8 hwz (Nat.le_refl _)) rfl h1).1
      have htt8 := Hhtab.out.below (hB8.mono hle) (Nat.le_refl _)
      clear hb6 hb7 hb8 hb9 hb10 hb11 hb12 hb13 hB5 hB6 hB7 hbu6 hbu7
      have HhoK8 := Lib.hid hoK8; have HhoM8 := Lib.hid hoM8; have HhMc := Lib.hid hMc; have HhKc := Lib.hid hKc; have Hhtt8 := Lib.hid htt8; clear hoK8 hoM8 hMc hKc htt8
      go_wp2_with fail
      go_loopw [10, 11] (fun tv i wr => ∃ (k : Nat) (tn : Int), k ≤ K9.length ∧ tv = .int .i64 tn ∧ tn = (if t < k then (t : Int) else -1) ∧ i = .int .i64 k ∧ Below w8.heap.size w8 wr) (fun _ i _ => K9.length - (intOf i).toNat)
      case atStart => exact ⟨0, -1, by omega, rfl, by simp, rfl, Below.refl _ w8⟩
      case round =>
        obtain ⟨k, tn, hk, rfl, htn, rfl, hbr⟩ := hrel
        by_cases hkl : k < K9.length
        · obtain ⟨x, hx⟩ : ∃ x : Int, M9[k]? = some x := ⟨_, List.getElem?_eq_getElem (by rw [Hhlm.out]; exact hkl)⟩
          have hc1 := HhMc.out k x hx _ hbr
          obtain ⟨j3, hj3, hj4⟩ : ∃ j : Nat, (K9.length : Int) - 1 = (j : Int) ∧ K9.length - 1 = j := ⟨K9.length - 1, by omega, rfl⟩
          have hj7 : (j3 : Int) < (K9.length : Int) := by omega
          have hxl9 := Hhxl.out
          rw [hj4] at hxl9
          have hc2 := HhKc.out j3 xl hxl9 _ hbr
          have hu := Hhuniq.out k x hx
          by_cases hxx : x = xl
          · have hkt := hu.1 hxx
            subst hkt
            subst hxx
            have Hhx := Lib.hid hx; have Hhj4 := Lib.hid hj4; have Hhxl9 := Lib.hid hxl9; have Hhu := Lib.hid hu; have Hhtn := Lib.hid htn; clear hx hj4 hxl9 hu htn
            go_wp2_with fail
            refine Go.Canon.wp_region_text mixed (by kernel_rfl) ?_
            go_wp2_with fail
            refine Go.Canon.chk (by rfl) ?_
            go_wp2_with fail
            exact ⟨⟨k + 1, _, by omega, rfl, by simp, by simp, hbr.drew⟩, by simp [intOf]; omega⟩
          · have hkt : k ≠ t := fun h => hxx (hu.2 h)
            have hxb : (x == xl) = false := by rw [beq_eq_false_iff_ne]; exact hxx
            have htn2 : tn = (if t < k + 1 then (t : Int) else -1) := by
              rw [htn]
              by_cases h9 : t < k
              · rw [if_pos h9, if_pos (by omega)]
              · rw [if_neg h9, if_neg (by omega)]
            clear hxx
            have Hhx := Lib.hid hx; have Hhj4 := Lib.hid hj4; have Hhxl9 := Lib.hid hxl9; have Hhu := Lib.hid hu; have Hhtn := Lib.hid htn; have Hhtn2 := Lib.hid htn2; clear hx hj4 hxl9 hu htn htn2
            go_wp2_with fail
            refine Go.Canon.wp_region_text mixed (by kernel_rfl) ?_
            go_wp2_with fail
            refine Go.Canon.chk (by rfl) ?_
            go_wp2_with fail
            exact ⟨⟨k + 1, _, by omega, rfl, Hhtn2.out, by simp, hbr.drew⟩, by simp [intOf]; omega⟩
        · obtain rfl : k = K9.length := by omega
          rw [if_pos htl] at htn
          subst htn
          have hi3 := Hhin.out wr.drew (Hhtt8.out.below (hbr.drew.mono Hhtt8.out.le) (Nat.le_refl _))
          have hi4 := Hhin.out wr (Hhtt8.out.below (hbr.mono Hhtt8.out.le) (Nat.le_refl _))
          have Hhi3 := Lib.hid hi3; have Hhi4 := Lib.hid hi4; clear hi3 hi4
          by_cases ht9 : (t : Int) ≤ 0
          · go_wp2_with fail
            go_loopw [12] (fun i wz => ∃ k : Nat, k ≤ K9.length ∧ i = .int .i64 k ∧ Below w8.heap.size w8 wz) (fun i _ => K9.length - (intOf i).toNat)
            case atStart => exact ⟨0, by omega, rfl, hbr⟩
            case round =>
              obtain ⟨k, hk, rfl, hbz⟩ := hrel
              by_cases hkl : k < K9.length
              · obtain ⟨x, hx⟩ : ∃ x : Int, K9[K9.length - 1 - k]? = some x := ⟨_, List.getElem?_eq_getElem (by omega)⟩
                have hx2 := (Hhback.out k hkl).trans hx
                obtain ⟨j1, hj1, hj2⟩ : ∃ j : Nat, ((t : Int) + (k : Int)) % (K9.length : Int) = (j : Int) ∧ (t + k) % K9.length = j := ⟨(t + k) % K9.length, rfl, rfl⟩
                obtain ⟨j3, hj3, hj4⟩ : ∃ j : Nat, (K9.length : Int) - 1 - (k : Int) = (j : Int) ∧ K9.length - 1 - k = j := ⟨K9.length - 1 - k, by omega, rfl⟩
                have hj5 : j1 < K9.length := by rw [← hj2]; exact Nat.mod_lt _ (by omega)
                have hj6 : (j1 : Int) < (K9.length : Int) := by omega
                have hj7 : (j3 : Int) < (K9.length : Int) := by omega
                rw [hj2] at hx2
                rw [hj4] at hx
                have hc1 := HhMc.out j1 x hx2 _ hbz
                have hc2 := HhKc.out j3 x hx _ hbz
                have Hhx := Lib.hid hx; have Hhx2 := Lib.hid hx2; have Hhj2 := Lib.hid hj2; have Hhj4 := Lib.hid hj4; clear hx hx2 hj2 hj4
                go_wp2_with fail
                refine Go.Canon.wp_region_text mixed (by kernel_rfl) ?_
                go_wp2_with fail
                refine Go.Canon.chk (by rfl) ?_
                go_wp2_with fail
                exact ⟨⟨k + 1, by omega, by simp, hbz.drew⟩, by simp [intOf]; omega⟩
              · obtain rfl : k = K9.length := by omega
                have hfin := below_call hfinal hbz hfinal.size
                go_wp2_with fail
                go_ret
                exact ⟨rfl, hfin⟩
          · have ht9' : 0 < t := by omega
            clear ht9
            obtain rfl : I9 = true := by
              cases I9 with
              | true => rfl
              | false => have := Hht0.out rfl; omega
            go_wp2_with fail
            refine Hhi4.out.mono ?_
            rintro e w9 ⟨rfl, hb14⟩
            have hbr9 := hbr.trans (hb14.mono hbr.size)
            go_wp2_with fail
            go_loopw [12] (fun i wz => ∃ k : Nat, k ≤ K9.length ∧ i = .int .i64 k ∧ Below w8.heap.size w8 wz) (fun i _ => K9.length - (intOf i).toNat)
            case atStart => exact ⟨0, by omega, rfl, hbr9⟩
            case round =>
              obtain ⟨k, hk, rfl, hbz⟩ := hrel
              by_cases hkl : k < K9.length
              · obtain ⟨x, hx⟩ : ∃ x : Int, K9[K9.length - 1 - k]? = some x := ⟨_, List.getElem?_eq_getElem (by omega)⟩
                have hx2 := (Hhback.out k hkl).trans hx
                obtain ⟨j1, hj1, hj2⟩ : ∃ j : Nat, ((t : Int) + (k : Int)) % (K9.length : Int) = (j : Int) ∧ (t + k) % K9.length = j := ⟨(t + k) % K9.length, rfl, rfl⟩
                obtain ⟨j3, hj3, hj4⟩ : ∃ j : Nat, (K9.length : Int) - 1 - (k : Int) = (j : Int) ∧ K9.length - 1 - k = j := ⟨K9.length - 1 - k, by omega, rfl⟩
                have hj5 : j1 < K9.length := by rw [← hj2]; exact Nat.mod_lt _ (by omega)
                have hj6 : (j1 : Int) < (K9.length : Int) := by omega
                have hj7 : (j3 : Int) < (K9.length : Int) := by omega
                rw [hj2] at hx2
                rw [hj4] at hx
                have hc1 := HhMc.out j1 x hx2 _ hbz
                have hc2 := HhKc.out j3 x hx _ hbz
                have Hhx := Lib.hid hx; have Hhx2 := Lib.hid hx2; have Hhj2 := Lib.hid hj2; have Hhj4 := Lib.hid hj4; clear hx hx2 hj2 hj4
                go_wp2_with fail
                refine Go.Canon.wp_region_text mixed (by kernel_rfl) ?_
                go_wp2_with fail
                refine Go.Canon.chk (by rfl) ?_
                go_wp2_with fail
                exact ⟨⟨k + 1, by omega, by simp, hbz.drew⟩, by simp [intOf]; omega⟩
              · obtain rfl : k = K9.length := by omega
                have hfin := below_call hfinal hbz hfinal.size
                go_wp2_with fail
                go_ret
                exact ⟨rfl, hfin⟩
end Go.Proofs.Ytckkpmjkajkkmaa
