/- The law CutOrder, walked. -/
import Derived.Test.YtpbdcppaiafbgaaGreatIJ
import Derived.Test.YtpbdcppaiafbgaaGreatHL
import Derived.Test.YtpbdcppaiafbgaaGreatIL
import Derived.Test.YtpbdcppaiafbgaaGreatApp
import Derived.Test.YtpbdcppaiafbgaaGreatFP
namespace Go.Mesh
/-- Two of a list changed places. -/
theorem swap_perm {α : Type} [DecidableEq α] {l : List α} {a b : Nat} (ha : a < l.length) (hb : b < l.length) : ((l.set a l[b]).set b l[a]).Perm l := by
  refine List.perm_iff_count.2 fun c => ?_
  have h1 : (l.set a l[b]).length = l.length := List.length_set
  rw [List.count_set (by rw [h1]; exact hb), List.count_set ha]
  have h2 : (l.set a l[b])[b]'(by rw [h1]; exact hb) = l[b] := by
    rw [List.getElem_set]
    split
    · rfl
    · rfl
  rw [h2]
  have h3 : (if (l[a] == c) = true then 1 else 0) ≤ l.count c := by
    split
    · rename_i h
      have h := eq_of_beq h
      have : c ∈ l := h ▸ List.getElem_mem ha
      exact List.count_pos_iff.2 this
    · omega
  omega
theorem swap_nm {L : List (Int × Int)} {a b : Nat} (ha : a < L.length) (hb : b < L.length) : (((L.set a L[b]).set b L[a]).map nm).Perm (L.map nm) := (swap_perm ha hb).map nm
theorem flip_nm {L : List (Int × Int)} {a : Nat} (ha : a < L.length) {e : Int × Int} (he : nm e = nm L[a]) : (L.set a e).map nm = L.map nm := by
  rw [List.map_set, he, ← List.getElem_map nm (h := by rw [List.length_map]; exact ha), List.set_getElem_self]
end Go.Mesh
namespace Go.Words
open Go Go.RowKit Go.Mesh
theorem flat2_cell (L : List (Int × Int)) : ∀ {i : Nat} (h : i < L.length), (flat2 L)[i * 2]? = some (.int .i64 L[i].1) ∧ (flat2 L)[i * 2 + 1]? = some (.int .i64 L[i].2) := by
  intro i h
  have h1 := flat2_at L i L[i] (List.getElem?_eq_getElem h)
  constructor
  · have := congrArg (fun l => l[0]?) h1
    simpa [List.getElem?_take, List.getElem?_drop] using this
  · have := congrArg (fun l => l[1]?) h1
    simpa [List.getElem?_take, List.getElem?_drop] using this
theorem flat2_set (L : List (Int × Int)) : ∀ (i : Nat) (e : Int × Int), i < L.length → ((flat2 L).set (i * 2) (.int .i64 e.1)).set (i * 2 + 1) (.int .i64 e.2) = flat2 (L.set i e) := by
  induction L with
  | nil => intro i e h; simp at h
  | cons x L ih =>
    intro i e h
    cases i with
    | zero => simp [flat2]
    | succ i =>
      have h2 := ih i e (by simpa using h)
      rw [show (i + 1) * 2 = i * 2 + 1 + 1 by omega]
      simp only [flat2, List.flatMap_cons, List.cons_append, List.nil_append, List.set_cons_succ] at h2 ⊢
      rw [h2]
theorem flat2_one (l : List (Int × Int)) : ∀ u ∈ flat2 l, u.oneCell' = true := fun u hu => by
  unfold flat2 at hu
  obtain ⟨e, _, h⟩ := List.mem_flatMap.1 hu
  simp only [List.mem_cons, List.not_mem_nil, or_false] at h
  rcases h with rfl | rfl <;> rfl
theorem Sl.u8_at {w : World} {B n cap k : Nat} {A : Option Addr} {l : List Int} (h : Sl 1 RU8 w B (.slice A n cap) l) (hk : k < l.length) :
    ∃ b o, A = some ⟨b, o, none⟩ ∧ b < B ∧ w.cell? ⟨b, o + k, none⟩ = some (.int .u8 l[k]) ∧ 0 ≤ l[k] ∧ l[k] < 256 := by
  obtain ⟨b, o, cs, h1, h2, h3, h4, h5⟩ := h.at_ (List.getElem?_eq_getElem hk)
  obtain ⟨rfl, h6, h7⟩ := h4
  exact ⟨b, o, h1, h2, by simpa using h5 0 _ rfl, h6, h7⟩
theorem sl_cellsE {w : World} {B n cap : Nat} {A : Option Addr} {l : List (Int × Int)} (h : Sl 2 RPair w B (.slice A n cap) l) : (A = none → n = 0) ∧ ∀ ad, A = some ad → ∀ j u, (flat2 l)[j]? = some u → w.cell? (ad.add j) = some u := by
  obtain ⟨hn, _⟩ := h.len
  refine ⟨fun e => ?_, fun ad e j u hj => ?_⟩
  · subst e
    rcases Nat.eq_zero_or_pos n with h0 | h0
    · exact h0
    · obtain ⟨b, o, h1, _⟩ := h.pair_at (k := 0) (by omega)
      cases h1
  · have hjl : j < (flat2 l).length := (List.getElem?_eq_some_iff.1 hj).1
    rw [flat2_len] at hjl
    obtain ⟨b, o, h1, _, h2, h3⟩ := h.pair_at (k := j / 2) (by omega)
    rw [e] at h1
    injection h1 with h1
    subst h1
    obtain ⟨c1, c2⟩ := flat2_cell l (i := j / 2) (by omega)
    rcases (by omega : j = j / 2 * 2 ∨ j = j / 2 * 2 + 1) with h4 | h4
    · rw [h4, c1] at hj
      have hj := Option.some.inj hj
      subst hj
      rw [Addr.add_lit, show o + j = o + j / 2 * 2 by omega]
      exact h2
    · rw [h4, c2] at hj
      have hj := Option.some.inj hj
      subst hj
      rw [Addr.add_lit, show o + j = o + j / 2 * 2 + 1 by omega]
      exact h3
end Go.Words
namespace Go.Proofs.YtpbdcppaiafbgaaGreat
open Go Go.RowKit Go.Words Go.Mesh
theorem own_put2 {W : World} {base n cap a : Nat} {e : TypeId} {L : List (Int × Int)} (h : W.ownsRow base e 2 (.slice (some ⟨a, 0, none⟩) n cap) n (flat2 L)) {i : Nat} (hi : i < L.length) (x : Int × Int) :
    ((W.setCell ⟨a, i * 2, none⟩ (.int .i64 x.1)).setCell ⟨a, i * 2 + 1, none⟩ (.int .i64 x.2)).ownsRow base e 2 (.slice (some ⟨a, 0, none⟩) n cap) n (flat2 (L.set i x)) := by
  rw [← flat2_set L i x hi]
  exact own_put (own_put h _ _) _ _
theorem infoE19 : (Tryz.prog.info? 39).map (fun i => (i.zero, i.size, i.bytes)) = some (some (.agg #[.int .i64 0, .int .i64 0]), 2, 16) := by kernel_rfl
theorem along_parts {w' : World} {N n : Int} {T : List T3} {l : List (Int × Int)} {x wv pv : Value} (h : AlongEnd w' N T l (.tuple #[.agg #[.int .i64 n, x], wv, pv, .int .i64 0]) 0) :
    ∃ Es, CutOk N T l Es ∧ n = ((newO N T (l.map nm)).length : Nat) ∧ Sl 3 RTri w' w'.heap.size x (newX N T (l.map nm)) ∧ Sl 1 RInt w' w'.heap.size wv (newO N T (l.map nm)) ∧ Sl 4 R4 w' w'.heap.size pv (pairsL N T l Es) := by
  obtain ⟨sv, wv', pv', Es, he, hcut, hX, hO, hP⟩ := h.ok
  injection he with he
  have he := congrArg Array.toList he
  simp only [List.cons.injEq] at he
  obtain ⟨h1, h2, h3, _⟩ := he
  injection h1 with h1
  have h1 := congrArg Array.toList h1
  simp only [List.cons.injEq] at h1
  obtain ⟨h4, h5, _⟩ := h1
  injection h4 with _ h4
  subst h2; subst h3; subst h5
  exact ⟨Es, hcut, h4, hX, hO, hP⟩
theorem edge_same (d : Nat) (a b : Int) (w : World) : Sem.run Tryz.prog (Op.equalIn (d + 2) 39 (.agg #[.int .i64 a, .int .i64 b]) (.agg #[.int .i64 a, .int .i64 b])) w = .ok true w := by
  obtain ⟨i, hi, _⟩ := info_parts info_int
  have hp : Tryz.prog.plainKey 3 = true := by kernel_rfl
  have hc : Tryz.prog.cellsOf 3 = 1 := by kernel_rfl
  rw [show d + 2 = (d + 1) + 1 from rfl, run_equalIn_array w (d + 1) _ _ Tryz.underlying39 hi, hc, show List.range 2 = [0, 1] from rfl]
  have a0 : Sem.run Tryz.prog (part 3 #[.int .i64 a, .int .i64 b] (0 * 1)) w = .ok (.int .i64 a) w := run_part_plain w hp rfl
  have a1 : Sem.run Tryz.prog (part 3 #[.int .i64 a, .int .i64 b] (1 * 1)) w = .ok (.int .i64 b) w := run_part_plain w hp rfl
  have e : ∀ x : Int, Sem.run Tryz.prog (Op.equalIn (d + 1) 3 (.int .i64 x) (.int .i64 x)) w = .ok (x == x) w := fun x => run_equalIn_int w d 3 .i64 .i64 x x Tryz.underlying3
  simp only [Op.eqItems, Sem.run_bind, a0, a1, e, Result.andThen_ok, beq_self_eq_true, Bool.not_true, Bool.false_eq_true, if_false]
  rfl
theorem pair_same (a b c d : Int) (w : World) : Sem.run Tryz.prog (Op.equalIn 10000 41 (.agg #[.int .i64 a, .int .i64 b, .int .i64 c, .int .i64 d]) (.agg #[.int .i64 a, .int .i64 b, .int .i64 c, .int .i64 d])) w = .ok true w := by
  obtain ⟨f0, f1, hf, t0, t1, o0, o1⟩ : ∃ f0 f1 : Field, (Tryz.prog.fieldsOf 41).toList = [f0, f1] ∧ f0.type = 39 ∧ f1.type = 39 ∧ f0.offset = 0 ∧ f1.offset = 2 := ⟨((Tryz.prog.fieldsOf 41)[0]?).get (by kernel_rfl), ((Tryz.prog.fieldsOf 41)[1]?).get (by kernel_rfl), by kernel_rfl, by kernel_rfl, by kernel_rfl, by kernel_rfl, by kernel_rfl⟩
  have hu : Tryz.prog.underlying 41 = some (.struct (Tryz.prog.fieldsOf 41)) := by kernel_rfl
  have hh : Tryz.prog.stoodInHeld 41 = false := by kernel_rfl
  have p0 : ∀ x y z u : Value, Sem.run Tryz.prog (part 39 #[x, y, z, u] 0) w = .ok (.agg #[x, y]) w := fun x y z u => by kernel_rfl
  have p1 : ∀ x y z u : Value, Sem.run Tryz.prog (part 39 #[x, y, z, u] 2) w = .ok (.agg #[z, u]) w := fun x y z u => by kernel_rfl
  rw [show (10000 : Nat) = 9999 + 1 from rfl, run_equalIn_struct w 9999 _ _ _ hu hh, hf]
  have e0 : Sem.run Tryz.prog (Op.equalIn 9999 39 (.agg #[.int .i64 a, .int .i64 b]) (.agg #[.int .i64 a, .int .i64 b])) w = .ok true w := edge_same 9997 a b w
  have e1 : Sem.run Tryz.prog (Op.equalIn 9999 39 (.agg #[.int .i64 c, .int .i64 d]) (.agg #[.int .i64 c, .int .i64 d])) w = .ok true w := edge_same 9997 c d w
  simp only [Op.eqFields, Sem.run_bind, Sem.run_ite, t0, t1, o0, o1, p0, p1, Result.andThen_ok, e0, e1]
  by_cases n0 : f0.name = "_" <;> by_cases n1 : f1.name = "_" <;> simp [n0, n1]
set_option maxRecDepth 40000 in
set_option maxHeartbeats 8000000 in
theorem cutorder_law (sv : Value) (N : Int) (T : List T3) (v1 : Value) (l : List (Int × Int)) (v2 : Value) (bs : List Int) (w : World) {B : Nat} (hB0 : B ≤ w.heap.size) (hT : Sl 3 RTri w B sv T) (hN : I64 N) (h1 : Sl 2 RPair w B v1 l ∧ ∀ e ∈ l, ok2 e) (h2 : Sl 1 RU8 w B v2 bs) :
    Calls Tryz.prog 4 #[.agg #[.int .i64 N, sv], v1, v2] w fun e w' => e = .returned (.bool true) ∧ Below w.heap.size w w' := by
  obtain ⟨Ab, capb, rfl, hcapb⟩ := h2.form
  have Hh2 := Lib.hid h2
  clear h2
  obtain ⟨hl, hok⟩ := h1
  obtain ⟨A, cap, rfl, hcap⟩ := hT.form
  obtain ⟨A2, cap2, rfl, hcap2⟩ := hl.form
  have hb0 := (Below.refl w.heap.size w).alloc (Nat.le_refl _) (.cells #[.int .i64 N, .slice A T.length cap] 24)
  have hk0 := Bk.new w 24 [.int .i64 N, .slice A T.length cap]
  have haw := awake19_calls (w.alloc (.cells #[.int .i64 N, .slice A T.length cap] 24))
  have hz0 : w.heap.size + 1 ≤ (w.alloc (.cells #[.int .i64 N, .slice A T.length cap] 24)).heap.size := by simp
  generalize hw0 : w.alloc (.cells #[.int .i64 N, .slice A T.length cap] 24) = w0 at *
  have HhT := Lib.hid hT; clear hT; have Hhl := Lib.hid hl; clear hl; have Hhok := Lib.hid hok; clear hok; have Hhaw := Lib.hid haw; clear haw; have Hhk0 := Lib.hid hk0; clear hk0
  go_enter Tryz.func4, Tryz.ntmps4
  go_wp2_with fail
  clear hw0
  refine Hhaw.out.mono ?_
  rintro e w1 ⟨rfl, hb1⟩
  have hz1 := hb1.size
  have hbel1 := hb0.trans (hb1.mono hb0.size)
  have hk1 := Hhk0.out.below hb1 (by omega)
  have c0 : w1.cell? ⟨w.heap.size, 0, none⟩ = some (.int .i64 N) := hk1.cell 0
  have c1 : w1.cell? ⟨w.heap.size, 1, none⟩ = some (.slice A T.length cap) := hk1.cell 1
  have hk1 := hk1
  have hgr := great19_calls N A A2 T.length l.length cap cap2 w1
  obtain ⟨bg, hbg⟩ : ∃ bg, big19 N T.length l.length = bg := ⟨_, rfl⟩
  rw [hbg] at hgr
  have Hhk1 := Lib.hid hk1; clear hk1; have Hhgr := Lib.hid hgr; clear hgr
  go_wp2_with fail
  refine Hhgr.out.mono ?_
  rintro e w2 ⟨rfl, hb2⟩
  have hz2 := hb2.size
  have hbel2 := hbel1.trans (hb2.mono hbel1.size)
  cases bg with
  | true =>
    go_wp2_with fail
    go_ret
    exact ⟨rfl, hbel2⟩
  | false =>
    have hsm := small19 hbg
    have hk2 := Hhk1.out.below hb2 (by omega)
    have d0 : w2.cell? ⟨w.heap.size, 0, none⟩ = some (.int .i64 N) := hk2.cell 0
    have d1 : w2.cell? ⟨w.heap.size, 1, none⟩ = some (.slice A T.length cap) := hk2.cell 1
    have hT2 := HhT.out.below keeps_tri (hbel2.mono hB0)
    have hl2 := Hhl.out.below keeps_pair (hbel2.mono hB0)
    by_cases hb6 : 60 < (bs.length : Int)
    · go_wp2_with fail
      all_goals first | (exfalso; omega) | skip
      go_ret
      exact ⟨rfl, hbel2⟩
    have hown0 : (w2.alloc (.cells #[] 39)).ownsRow w2.heap.size 39 2 (.slice (some ⟨w2.heap.size, 0, none⟩) 0 0) 0 [] := World.ownsRow_lit (e := 39) (size := 2) w2 #[] 0 (Nat.le_refl _) (by unfold maxLen; omega) rfl
    have hl2d := hl2.below keeps_pair (((Below.refl w2.heap.size w2).alloc (Nat.le_refl _) (.cells #[] 39)).mono (show B ≤ w2.heap.size by omega))
    obtain ⟨k1, k2⟩ := sl_cellsE hl2d
    have hf1 := flat2_one l
    have hf2 := flat2_len l
    have HhT2 := Lib.hid hT2; clear hT2; have Hhl2 := Lib.hid hl2; clear hl2; have Hhk2 := Lib.hid hk2; clear hk2; have Hhown0 := Lib.hid hown0; clear hown0; have Hhl2d := Lib.hid hl2d; clear hl2d; have Hk1 := Lib.hid k1; clear k1; have Hk2 := Lib.hid k2; clear k2; have Hhf1 := Lib.hid hf1; clear hf1; have Hhf2 := Lib.hid hf2; clear hf2
    go_wp2_with (at_builtin; refine wpList_append_opt rfl (.tmp 37) (.tmp 38) 25 rfl w2.heap.size Tryz.underlying25 infoE19 rfl (by decide) _ 0 [] rfl Hhown0.out A2 l.length cap2 (flat2 l) rfl (by rw [Hhf2.out]) Hk1.out Hk2.out Hhf1.out (by omega) (by decide) (by simp) ?_)
    all_goals first | (exfalso; omega) | skip
    intro v1 w4 hown4 _ hb4' _
    have hb4 : Below w2.heap.size w2 w4 := ((Below.refl w2.heap.size w2).alloc (Nat.le_refl _) _).trans hb4'
    try rw [Nat.zero_add]
    obtain ⟨A7, cap7, rfl, hcap7⟩ := own_form hown4
    have Hhown4 := Lib.hid hown4; clear hown4; have Hhb4' := Lib.hid hb4'; clear hb4'
    go_wp2_with fail
    go_loopw [8] (fun iv wr => ∃ (i : Nat) (L : List (Int × Int)), i ≤ bs.length ∧ iv = .int .i64 (i : Int) ∧ wr.ownsRow w2.heap.size 39 2 (.slice A7 l.length cap7) l.length (flat2 L) ∧ L.length = l.length ∧ (L.map nm).Perm (l.map nm) ∧ (∀ e ∈ L, ok2 e) ∧ Below w2.heap.size w2 wr) (fun iv _ => bs.length - (intOf iv).toNat)
    case atStart => exact ⟨0, l, by omega, rfl, Hhown4.out, rfl, List.Perm.refl _, Hhok.out, hb4⟩
    case round =>
      obtain ⟨i, L, hi, rfl, hown, hLl, hperm, hokL, hbr⟩ := hrel
      obtain ⟨wq, hwq⟩ : ∃ wq, wq = wr := ⟨_, rfl⟩
      subst hwq
      have hzr := hbr.size
      have hbelr := hbel2.trans (hbr.mono hbel2.size)
      by_cases hgo : i < bs.length ∧ 0 < l.length
      · obtain ⟨hil, hlp⟩ := hgo
        obtain ⟨gm, capm, hsv, hgB, hgz⟩ := own_some hown hlp
        injection hsv with hsv1 _ hsv2
        subst hsv1; subst hsv2
        obtain ⟨bb, ob, rfl, hbb, u1, u2, u3⟩ := (Hh2.out.below keeps_u8 (hbelr.mono hB0)).u8_at hil
        obtain ⟨un, hun⟩ : ∃ un : Nat, bs[i] = (un : Int) := ⟨bs[i].toNat, by omega⟩
        rw [hun] at u1 u2 u3
        clear hun
        obtain ⟨a, ha⟩ : ∃ a, i % l.length = a := ⟨_, rfl⟩
        obtain ⟨b, hb⟩ : ∃ b, un % l.length = b := ⟨_, rfl⟩
        have hal : a < L.length := by rw [← ha, hLl]; exact Nat.mod_lt _ hlp
        have hbl : b < L.length := by rw [← hb, hLl]; exact Nat.mod_lt _ hlp
        have hai : (i : Int) % (l.length : Int) = (a : Int) := by rw [← ha]; exact (Int.natCast_emod i l.length).symm
        have hbi : (un : Int) % (l.length : Int) = (b : Int) := by rw [← hb]; exact (Int.natCast_emod un l.length).symm
        clear ha hb
        have hne0 : ((l.length : Int) == 0) = false := by rw [beq_eq_false_iff_ne]; omega
        have hpos0 : 0 < (l.length : Int) := by omega
        obtain ⟨x1, x2, hx⟩ : ∃ x1 x2, L[a] = (x1, x2) := ⟨_, _, rfl⟩
        obtain ⟨y1, y2, hy⟩ : ∃ y1 y2, L[b] = (y1, y2) := ⟨_, _, rfl⟩
        obtain ⟨cx1, cx2⟩ := flat2_cell L hal
        obtain ⟨cy1, cy2⟩ := flat2_cell L hbl
        rw [hx] at cx1 cx2
        rw [hy] at cy1 cy2
        have p1 := (hown.cellAt (a * 2) (by omega)).trans cx1
        have p2 := (hown.cellAt (a * 2 + 1) (by omega)).trans cx2
        have p3 := (hown.cellAt (b * 2) (by omega)).trans cy1
        have p4 := (hown.cellAt (b * 2 + 1) (by omega)).trans cy2
        have hbbq : bb < wq.heap.size := by omega
        have hali : (a : Int) < (l.length : Int) := by omega
        have hbli : (b : Int) < (l.length : Int) := by omega
        have hgmb : bb ≠ gm := by omega
        obtain ⟨wd, hwd⟩ : ∃ wd, wq.drew = wd := ⟨_, rfl⟩
        have hbd : Below wq.heap.size wq wd := by rw [← hwd]; exact (Below.refl wq.heap.size wq).drew
        have hzd : wq.heap.size ≤ wd.heap.size := hbd.size
        have hgd : gm < wd.heap.size := by omega
        have d1' := (hbd.cell (p := ⟨gm, a * 2, none⟩) hgz).trans p1
        have d2' := (hbd.cell (p := ⟨gm, a * 2 + 1, none⟩) hgz).trans p2
        have d3' := (hbd.cell (p := ⟨gm, b * 2, none⟩) hgz).trans p3
        have d4' := (hbd.cell (p := ⟨gm, b * 2 + 1, none⟩) hgz).trans p4
        have ud := (hbd.cell (p := ⟨bb, ob + i, none⟩) hbbq).trans u1
        have hownd := own_below hown hbd (Nat.le_refl _)
        have kb1 : ∀ X : Obj, Go.Canon.KeepU (fun b => b < wd.heap.size) wd.drew (wd.drew.alloc X) := fun X => keep_below (B := wd.heap.size) ((Below.refl wd.heap.size wd.drew).alloc (Nat.le_refl _) X)
        have kb2 : ∀ X Y : Obj, Go.Canon.KeepU (fun b => b < wd.heap.size) wd.drew ((wd.drew.alloc X).alloc Y) := fun X Y => keep_below (B := wd.heap.size) (((Below.refl wd.heap.size wd.drew).alloc (Nat.le_refl _) X).alloc (by simp) Y)
        have hbbd : bb < wd.heap.size := by omega
        have Hhown := Lib.hid hown; clear hown; have Hhownd := Lib.hid hownd; clear hownd; have HhLl := Lib.hid hLl; clear hLl; have Hhperm := Lib.hid hperm; clear hperm; have HhokL := Lib.hid hokL; clear hokL; have Hhx := Lib.hid hx; clear hx; have Hhy := Lib.hid hy; clear hy; have Hcx1 := Lib.hid cx1; clear cx1; have Hcx2 := Lib.hid cx2; clear cx2; have Hcy1 := Lib.hid cy1; clear cy1; have Hcy2 := Lib.hid cy2; clear cy2
        go_wp2_with fail
        refine Go.Canon.wp_region_text mixed (by kernel_rfl) ?_
        go_wp2_with fail
        refine Go.Canon.chk (by rfl) ?_
        go_wp2_with fail
        clear hwd
        refine Go.Canon.wp_region_tree [3, 7] (fun b9 => b9 < wd.heap.size) (.seg [0,1,2,3,4,5,6,7] (.alt 8 (.alt 9 (.alt 10 (.alt 11 .fin .no) .no) .no) (.alt 9 (.alt 8 (.alt 10 (.alt 11 .fin .no) .no) .no) .no))) mixed (by kernel_rfl) ?_
        refine Go.Canon.tr_seg ?_
        simp only [List.map_cons, List.map_nil, List.getD_cons_zero, List.getD_cons_succ]
        go_wp2_with fail
        refine Go.Canon.tr_to (Go.Canon.tr_alt ?_ (Go.Canon.tr_alt ?_ Go.Canon.tr_no))
        · simp only [List.getD_cons_zero, List.getD_cons_succ]
          go_wp2_with fail
          refine Go.Canon.tr_end (kb1 _) (Go.Canon.tr_one ?_)
          simp only [List.getD_cons_zero, List.getD_cons_succ]
          go_wp2_with fail
          refine Go.Canon.tr_end (kb2 _ _) (Go.Canon.tr_one ?_)
          simp only [List.getD_cons_zero, List.getD_cons_succ]
          go_wp2_with fail
          refine Go.Canon.tr_end (kb2 _ _) (Go.Canon.tr_one ?_)
          simp only [List.getD_cons_zero, List.getD_cons_succ]
          go_wp2_with fail
          refine Go.Canon.tr_end (kb2 _ _) (Go.Canon.tr_fin (by rfl) (List.forall_mem_cons.2 ⟨.inl ⟨_, rfl, hgd, by rw [World.cell?_drew, d1']; rfl⟩, List.forall_mem_cons.2 ⟨.inl ⟨_, rfl, hgd, by rw [World.cell?_drew, d3']; rfl⟩, fun _ h => by cases h⟩⟩) ?_)
          obtain ⟨wp, hwpe⟩ : ∃ wp, wp = ((wd.alloc (.cells #[.int .i64 x1, .int .i64 x2] 39)).alloc (.cells #[.int .i64 y1, .int .i64 y2] 39)).drew := ⟨_, rfl⟩
          have hwp : Below wd.heap.size wd wp := by rw [hwpe]; exact (((Below.refl wd.heap.size wd).alloc (Nat.le_refl _) _).alloc (by simp) _).drew
          have hkx : Bk wp (wd.heap.size) 39 [.int .i64 x1, .int .i64 x2] := by rw [hwpe]; first | exact ((Bk.new wd _ _).alloc _).drew | exact (Bk.new' _ _ (by simp)).drew
          have hky : Bk wp (wd.heap.size + 1) 39 [.int .i64 y1, .int .i64 y2] := by rw [hwpe]; first | exact ((Bk.new wd _ _).alloc _).drew | exact (Bk.new' _ _ (by simp)).drew
          rw [← hwpe]
          clear hwpe
          have g1 : wp.cell? ⟨wd.heap.size, 0, none⟩ = some (.int .i64 x1) := hkx.cell 0
          have g2 : wp.cell? ⟨wd.heap.size, 1, none⟩ = some (.int .i64 x2) := hkx.cell 1
          have g3 : wp.cell? ⟨wd.heap.size + 1, 0, none⟩ = some (.int .i64 y1) := hky.cell 0
          have g4 : wp.cell? ⟨wd.heap.size + 1, 1, none⟩ = some (.int .i64 y2) := hky.cell 1
          have hnx : wd.heap.size ≠ gm := by omega
          have hny : wd.heap.size + 1 ≠ gm := by omega
          have hbdp := hbd.trans (hwp.mono hzd)
          have hbrp := hbr.trans (hbdp.mono hzr)
          have hownp := own_below Hhownd.out hwp (Nat.le_refl _)
          have f1 := hownp.frozenAt (a * 2)
          have f2 := hownp.frozenAt (a * 2 + 1)
          have f3 := hownp.frozenAt (b * 2)
          have f4 := hownp.frozenAt (b * 2 + 1)
          have q1 := (hwp.cell (p := ⟨gm, a * 2, none⟩) hgd).trans d1'
          have q2 := (hwp.cell (p := ⟨gm, a * 2 + 1, none⟩) hgd).trans d2'
          have q3 := (hwp.cell (p := ⟨gm, b * 2, none⟩) hgd).trans d3'
          have q4 := (hwp.cell (p := ⟨gm, b * 2 + 1, none⟩) hgd).trans d4'
          have up := (hwp.cell (p := ⟨bb, ob + i, none⟩) hbbd).trans ud
          have kst : ∀ (W : World) (p q : Nat) (u v : Value), ((W.setCell ⟨gm, p, none⟩ u).setCell ⟨gm, q, none⟩ v).heap[wd.heap.size]? = W.heap[wd.heap.size]? := fun W p q u v => (Below.heap_setCell _ ⟨gm, q, none⟩ v (wd.heap.size) hnx).trans (Below.heap_setCell _ ⟨gm, p, none⟩ u (wd.heap.size) hnx)
          have Hhkx := Lib.hid hkx; clear hkx; have Hhky := Lib.hid hky; clear hky; have Hhownp := Lib.hid hownp; clear hownp
          go_wp2_with fail
          refine Go.Canon.wp_region_tree [5] (fun b9 => b9 = wd.heap.size) (.seg [0,1,2,3,4,5,6] (.alt 7 (.seg [8] (.alt 9 .fin .no)) .no)) mixed (by kernel_rfl) ?_
          refine Go.Canon.tr_seg ?_
          simp only [List.map_cons, List.map_nil, List.getD_cons_zero, List.getD_cons_succ]
          go_wp2_with fail
          refine Go.Canon.tr_to (Go.Canon.tr_one ?_)
          simp only [List.getD_cons_zero, List.getD_cons_succ]
          go_wp2_with fail
          generalize hws : World.drew (World.setCell (World.setCell wp ⟨gm, a * 2, none⟩ (.int .i64 y1)) ⟨gm, a * 2 + 1, none⟩ (.int .i64 y2)) = ws
          have hownP := Hhownp.out
          have hBp : w2.heap.size ≤ wp.heap.size := hbrp.size
          have hows : ws.ownsRow w2.heap.size 39 2 (.slice (some ⟨gm, 0, none⟩) l.length cap7) l.length (flat2 (L.set a (y1, y2))) := by rw [← hws]; exact own_put2 hownP hal (y1, y2)
          have hbws : Below w2.heap.size w2 ws := by rw [← hws]; exact ((hbrp.setCell (p := ⟨gm, a * 2, none⟩) hgB _).setCell (p := ⟨gm, a * 2 + 1, none⟩) hgB _).drew
          have hkxs : Bk ws (wd.heap.size) 39 [.int .i64 x1, .int .i64 x2] := by rw [← hws]; exact ((Hhkx.out.far (p := ⟨gm, a * 2, none⟩) hnx _).far (p := ⟨gm, a * 2 + 1, none⟩) hnx _).drew
          have hkys : Bk ws (wd.heap.size + 1) 39 [.int .i64 y1, .int .i64 y2] := by rw [← hws]; exact ((Hhky.out.far (p := ⟨gm, a * 2, none⟩) hny _).far (p := ⟨gm, a * 2 + 1, none⟩) hny _).drew
          have hke1 : ws.heap[wd.heap.size]? = wp.drew.heap[wd.heap.size]? := by rw [← hws]; exact kst _ _ _ _ _
          clear hws
          have hLs : (L.set a (y1, y2)).length = L.length := List.length_set
          have hbls : b < (L.set a (y1, y2)).length := by rw [hLs]; exact hbl
          obtain ⟨es1, es2⟩ := flat2_cell (L.set a (y1, y2)) hbls
          have r3 := (hows.cellAt (b * 2) (by have := HhLl.out; omega)).trans es1
          have r4 := (hows.cellAt (b * 2 + 1) (by have := HhLl.out; omega)).trans es2
          have f5 := hows.frozenAt (b * 2)
          have f6 := hows.frozenAt (b * 2 + 1)
          generalize (L.set a (y1, y2))[b] = eb at r3 r4 es1 es2
          have Hhows := Lib.hid hows; clear hows; have Hhkxs := Lib.hid hkxs; clear hkxs; have Hhkys := Lib.hid hkys; clear hkys; have Hes1 := Lib.hid es1; clear es1; have Hes2 := Lib.hid es2; clear es2; have HhownP := Lib.hid hownP; clear hownP
          refine Go.Canon.tr_end (fun b9 h9 => by subst h9; exact hke1) (Go.Canon.tr_seg ?_)
          simp only [List.map_cons, List.map_nil, List.getD_cons_zero, List.getD_cons_succ]
          go_wp2_with fail
          refine Go.Canon.tr_to (Go.Canon.tr_one ?_)
          simp only [List.getD_cons_zero, List.getD_cons_succ]
          go_wp2_with fail
          have kst2 : ∀ (p q : Nat) (u v : Value), ((ws.setCell ⟨gm, p, none⟩ u).setCell ⟨gm, q, none⟩ v).drew.heap[wd.heap.size]? = wp.drew.heap[wd.heap.size]? := fun p q u v => ((Below.heap_setCell _ ⟨gm, q, none⟩ v (wd.heap.size) hnx).trans (Below.heap_setCell _ ⟨gm, p, none⟩ u (wd.heap.size) hnx)).trans hke1
          refine Go.Canon.tr_end (fun b9 h9 => by subst h9; exact kst2 _ _ _ _) (Go.Canon.tr_fin (by rfl) (List.forall_mem_cons.2 ⟨.inl ⟨_, rfl, rfl, by rw [World.cell?_drew, g1]; rfl⟩, fun _ h => by cases h⟩) ?_)
          obtain ⟨wt, hwt⟩ : ∃ wt, ((ws.setCell ⟨gm, b * 2, none⟩ (.int .i64 x1)).setCell ⟨gm, b * 2 + 1, none⟩ (.int .i64 x2)) = wt := ⟨_, rfl⟩
          have howt : wt.ownsRow w2.heap.size 39 2 (.slice (some ⟨gm, 0, none⟩) l.length cap7) l.length (flat2 ((L.set a (y1, y2)).set b (x1, x2))) := by rw [← hwt]; exact own_put2 Hhows.out hbls (x1, x2)
          have hbwt : Below w2.heap.size w2 wt := by rw [← hwt]; exact ((hbws.setCell (p := ⟨gm, b * 2, none⟩) hgB _).setCell (p := ⟨gm, b * 2 + 1, none⟩) hgB _)
          have hkyt : Bk wt (wd.heap.size + 1) 39 [.int .i64 y1, .int .i64 y2] := by rw [← hwt]; exact ((Hhkys.out.far (p := ⟨gm, b * 2, none⟩) hny _).far (p := ⟨gm, b * 2 + 1, none⟩) hny _)
          rw [hwt]
          clear hwt
          have hyx : (L.set a L[b]).set b L[a] = (L.set a (y1, y2)).set b (x1, x2) := by rw [Hhx.out, Hhy.out]
          have hp2 : (((L.set a (y1, y2)).set b (x1, x2)).map nm).Perm (l.map nm) := by rw [← hyx]; exact (swap_nm hal hbl).trans Hhperm.out
          have hokx : ok2 (x1, x2) := by rw [← Hhx.out]; exact HhokL.out _ (List.getElem_mem hal)
          have hoky : ok2 (y1, y2) := by rw [← Hhy.out]; exact HhokL.out _ (List.getElem_mem hbl)
          have hok2 : ∀ e ∈ (L.set a (y1, y2)).set b (x1, x2), ok2 e := fun e he => by
            rcases List.mem_or_eq_of_mem_set he with h9 | rfl
            · rcases List.mem_or_eq_of_mem_set h9 with h8 | rfl
              · exact HhokL.out e h8
              · exact hoky
            · exact hokx
          have hl2' : ((L.set a (y1, y2)).set b (x1, x2)).length = l.length := by rw [List.length_set, List.length_set]; exact HhLl.out
          have ut : wt.cell? ⟨bb, ob + i, none⟩ = some (.int .u8 un) := (hbwt.cell (p := ⟨bb, ob + i, none⟩) (by show bb < _; omega)).trans ((hbrp.cell (p := ⟨bb, ob + i, none⟩) (by show bb < _; omega)).symm.trans up)
          have fa : ((L.set a (y1, y2)).set b (x1, x2)).length = l.length → a < ((L.set a (y1, y2)).set b (x1, x2)).length := fun h9 => by rw [h9, ← HhLl.out]; exact hal
          have hswap : ((L.set a (y1, y2)).set b (x1, x2))[a]'(fa hl2') = (y1, y2) := by
            by_cases hab : b = a
            · subst hab
              have : (x1, x2) = (y1, y2) := Hhx.out.symm.trans Hhy.out
              simp [this]
            · rw [List.getElem_set_ne (by omega)]
              simp
          generalize (L.set a (y1, y2)).set b (x1, x2) = L2 at *
          have hal2 := fa hl2'
          obtain ⟨et1, et2⟩ := flat2_cell L2 hal2
          have m1 := (howt.cellAt (a * 2) (by omega)).trans et1
          have m2 := (howt.cellAt (a * 2 + 1) (by omega)).trans et2
          rw [hswap] at m1 m2
          have fz1 := howt.frozenAt (a * 2)
          have fz2 := howt.frozenAt (a * 2 + 1)
          have gy1 : wt.cell? ⟨wd.heap.size + 1, 0, none⟩ = some (.int .i64 y1) := hkyt.cell 0
          have gy2 : wt.cell? ⟨wd.heap.size + 1, 1, none⟩ = some (.int .i64 y2) := hkyt.cell 1
          have hflip : (L2.set a (y2, y1)).map nm = L2.map nm := flip_nm hal2 (by rw [hswap]; exact nm_swap _ _)
          have hokf : ∀ e ∈ L2.set a (y2, y1), ok2 e := fun e he => by
            rcases List.mem_or_eq_of_mem_set he with h8 | rfl
            · exact hok2 e h8
            · exact ⟨hoky.2, hoky.1⟩
          have hlf : (L2.set a (y2, y1)).length = l.length := by rw [List.length_set]; exact hl2'
          have hpf : ((L2.set a (y2, y1)).map nm).Perm (l.map nm) := by rw [hflip]; exact hp2
          have hof : ((wt.setCell ⟨gm, a * 2, none⟩ (.int .i64 y2)).setCell ⟨gm, a * 2 + 1, none⟩ (.int .i64 y1)).ownsRow w2.heap.size 39 2 (.slice (some ⟨gm, 0, none⟩) l.length cap7) l.length (flat2 (L2.set a (y2, y1))) := own_put2 howt hal2 (y2, y1)
          have hbf : Below w2.heap.size w2 ((wt.setCell ⟨gm, a * 2, none⟩ (.int .i64 y2)).setCell ⟨gm, a * 2 + 1, none⟩ (.int .i64 y1)) := (hbwt.setCell (p := ⟨gm, a * 2, none⟩) hgB _).setCell (p := ⟨gm, a * 2 + 1, none⟩) hgB _
          clear hswap
          have Hhowt := Lib.hid howt; clear howt; have Hhkyt := Lib.hid hkyt; clear hkyt; have Hhflip := Lib.hid hflip; clear hflip; have Hhokf := Lib.hid hokf; clear hokf; have Hhlf := Lib.hid hlf; clear hlf; have Hhpf := Lib.hid hpf; clear hpf; have Hhof := Lib.hid hof; clear hof; have Hhbf := Lib.hid hbf; clear hbf; have Hhp2 := Lib.hid hp2; clear hp2; have Hhok2 := Lib.hid hok2; clear hok2; have Hhl2' := Lib.hid hl2'; clear hl2'; have Het1 := Lib.hid et1; clear et1; have Het2 := Lib.hid et2; clear et2; have Hhyx := Lib.hid hyx; clear hyx
          by_cases h127 : 127 < (un : Int)
          · go_wp2_with fail
            all_goals first | (exfalso; omega) | skip
            exact ⟨⟨i + 1, L2.set a (y2, y1), by omega, by simp, Hhof.out, Hhlf.out, Hhpf.out, Hhokf.out, Hhbf.out⟩, by simp [intOf]; omega⟩
          · go_wp2_with fail
            all_goals first | (exfalso; omega) | skip
            exact ⟨⟨i + 1, L2, by omega, by simp, Hhowt.out, Hhl2'.out, Hhp2.out, Hhok2.out, hbwt⟩, by simp [intOf]; omega⟩
        · simp only [List.getD_cons_zero, List.getD_cons_succ]
          go_wp2_with fail
          refine Go.Canon.tr_end (kb1 _) (Go.Canon.tr_one ?_)
          simp only [List.getD_cons_zero, List.getD_cons_succ]
          go_wp2_with fail
          refine Go.Canon.tr_end (kb2 _ _) (Go.Canon.tr_one ?_)
          simp only [List.getD_cons_zero, List.getD_cons_succ]
          go_wp2_with fail
          refine Go.Canon.tr_end (kb2 _ _) (Go.Canon.tr_one ?_)
          simp only [List.getD_cons_zero, List.getD_cons_succ]
          go_wp2_with fail
          refine Go.Canon.tr_end (kb2 _ _) (Go.Canon.tr_fin (by rfl) (List.forall_mem_cons.2 ⟨.inl ⟨_, rfl, hgd, by rw [World.cell?_drew, d1']; rfl⟩, List.forall_mem_cons.2 ⟨.inl ⟨_, rfl, hgd, by rw [World.cell?_drew, d3']; rfl⟩, fun _ h => by cases h⟩⟩) ?_)
          obtain ⟨wp, hwpe⟩ : ∃ wp, wp = ((wd.alloc (.cells #[.int .i64 y1, .int .i64 y2] 39)).alloc (.cells #[.int .i64 x1, .int .i64 x2] 39)).drew := ⟨_, rfl⟩
          have hwp : Below wd.heap.size wd wp := by rw [hwpe]; exact (((Below.refl wd.heap.size wd).alloc (Nat.le_refl _) _).alloc (by simp) _).drew
          have hkx : Bk wp (wd.heap.size + 1) 39 [.int .i64 x1, .int .i64 x2] := by rw [hwpe]; first | exact ((Bk.new wd _ _).alloc _).drew | exact (Bk.new' _ _ (by simp)).drew
          have hky : Bk wp (wd.heap.size) 39 [.int .i64 y1, .int .i64 y2] := by rw [hwpe]; first | exact ((Bk.new wd _ _).alloc _).drew | exact (Bk.new' _ _ (by simp)).drew
          rw [← hwpe]
          clear hwpe
          have g1 : wp.cell? ⟨wd.heap.size + 1, 0, none⟩ = some (.int .i64 x1) := hkx.cell 0
          have g2 : wp.cell? ⟨wd.heap.size + 1, 1, none⟩ = some (.int .i64 x2) := hkx.cell 1
          have g3 : wp.cell? ⟨wd.heap.size, 0, none⟩ = some (.int .i64 y1) := hky.cell 0
          have g4 : wp.cell? ⟨wd.heap.size, 1, none⟩ = some (.int .i64 y2) := hky.cell 1
          have hnx : wd.heap.size + 1 ≠ gm := by omega
          have hny : wd.heap.size ≠ gm := by omega
          have hbdp := hbd.trans (hwp.mono hzd)
          have hbrp := hbr.trans (hbdp.mono hzr)
          have hownp := own_below Hhownd.out hwp (Nat.le_refl _)
          have f1 := hownp.frozenAt (a * 2)
          have f2 := hownp.frozenAt (a * 2 + 1)
          have f3 := hownp.frozenAt (b * 2)
          have f4 := hownp.frozenAt (b * 2 + 1)
          have q1 := (hwp.cell (p := ⟨gm, a * 2, none⟩) hgd).trans d1'
          have q2 := (hwp.cell (p := ⟨gm, a * 2 + 1, none⟩) hgd).trans d2'
          have q3 := (hwp.cell (p := ⟨gm, b * 2, none⟩) hgd).trans d3'
          have q4 := (hwp.cell (p := ⟨gm, b * 2 + 1, none⟩) hgd).trans d4'
          have up := (hwp.cell (p := ⟨bb, ob + i, none⟩) hbbd).trans ud
          have kst : ∀ (W : World) (p q : Nat) (u v : Value), ((W.setCell ⟨gm, p, none⟩ u).setCell ⟨gm, q, none⟩ v).heap[wd.heap.size + 1]? = W.heap[wd.heap.size + 1]? := fun W p q u v => (Below.heap_setCell _ ⟨gm, q, none⟩ v (wd.heap.size + 1) hnx).trans (Below.heap_setCell _ ⟨gm, p, none⟩ u (wd.heap.size + 1) hnx)
          have Hhkx := Lib.hid hkx; clear hkx; have Hhky := Lib.hid hky; clear hky; have Hhownp := Lib.hid hownp; clear hownp
          go_wp2_with fail
          refine Go.Canon.wp_region_tree [5] (fun b9 => b9 = wd.heap.size + 1) (.seg [0,1,2,3,4,5,6] (.alt 7 (.seg [8] (.alt 9 .fin .no)) .no)) mixed (by kernel_rfl) ?_
          refine Go.Canon.tr_seg ?_
          simp only [List.map_cons, List.map_nil, List.getD_cons_zero, List.getD_cons_succ]
          go_wp2_with fail
          refine Go.Canon.tr_to (Go.Canon.tr_one ?_)
          simp only [List.getD_cons_zero, List.getD_cons_succ]
          go_wp2_with fail
          generalize hws : World.drew (World.setCell (World.setCell wp ⟨gm, a * 2, none⟩ (.int .i64 y1)) ⟨gm, a * 2 + 1, none⟩ (.int .i64 y2)) = ws
          have hownP := Hhownp.out
          have hBp : w2.heap.size ≤ wp.heap.size := hbrp.size
          have hows : ws.ownsRow w2.heap.size 39 2 (.slice (some ⟨gm, 0, none⟩) l.length cap7) l.length (flat2 (L.set a (y1, y2))) := by rw [← hws]; exact own_put2 hownP hal (y1, y2)
          have hbws : Below w2.heap.size w2 ws := by rw [← hws]; exact ((hbrp.setCell (p := ⟨gm, a * 2, none⟩) hgB _).setCell (p := ⟨gm, a * 2 + 1, none⟩) hgB _).drew
          have hkxs : Bk ws (wd.heap.size + 1) 39 [.int .i64 x1, .int .i64 x2] := by rw [← hws]; exact ((Hhkx.out.far (p := ⟨gm, a * 2, none⟩) hnx _).far (p := ⟨gm, a * 2 + 1, none⟩) hnx _).drew
          have hkys : Bk ws (wd.heap.size) 39 [.int .i64 y1, .int .i64 y2] := by rw [← hws]; exact ((Hhky.out.far (p := ⟨gm, a * 2, none⟩) hny _).far (p := ⟨gm, a * 2 + 1, none⟩) hny _).drew
          have hke1 : ws.heap[wd.heap.size + 1]? = wp.drew.heap[wd.heap.size + 1]? := by rw [← hws]; exact kst _ _ _ _ _
          clear hws
          have hLs : (L.set a (y1, y2)).length = L.length := List.length_set
          have hbls : b < (L.set a (y1, y2)).length := by rw [hLs]; exact hbl
          obtain ⟨es1, es2⟩ := flat2_cell (L.set a (y1, y2)) hbls
          have r3 := (hows.cellAt (b * 2) (by have := HhLl.out; omega)).trans es1
          have r4 := (hows.cellAt (b * 2 + 1) (by have := HhLl.out; omega)).trans es2
          have f5 := hows.frozenAt (b * 2)
          have f6 := hows.frozenAt (b * 2 + 1)
          generalize (L.set a (y1, y2))[b] = eb at r3 r4 es1 es2
          have Hhows := Lib.hid hows; clear hows; have Hhkxs := Lib.hid hkxs; clear hkxs; have Hhkys := Lib.hid hkys; clear hkys; have Hes1 := Lib.hid es1; clear es1; have Hes2 := Lib.hid es2; clear es2; have HhownP := Lib.hid hownP; clear hownP
          refine Go.Canon.tr_end (fun b9 h9 => by subst h9; exact hke1) (Go.Canon.tr_seg ?_)
          simp only [List.map_cons, List.map_nil, List.getD_cons_zero, List.getD_cons_succ]
          go_wp2_with fail
          refine Go.Canon.tr_to (Go.Canon.tr_one ?_)
          simp only [List.getD_cons_zero, List.getD_cons_succ]
          go_wp2_with fail
          have kst2 : ∀ (p q : Nat) (u v : Value), ((ws.setCell ⟨gm, p, none⟩ u).setCell ⟨gm, q, none⟩ v).drew.heap[wd.heap.size + 1]? = wp.drew.heap[wd.heap.size + 1]? := fun p q u v => ((Below.heap_setCell _ ⟨gm, q, none⟩ v (wd.heap.size + 1) hnx).trans (Below.heap_setCell _ ⟨gm, p, none⟩ u (wd.heap.size + 1) hnx)).trans hke1
          refine Go.Canon.tr_end (fun b9 h9 => by subst h9; exact kst2 _ _ _ _) (Go.Canon.tr_fin (by rfl) (List.forall_mem_cons.2 ⟨.inl ⟨_, rfl, rfl, by rw [World.cell?_drew, g1]; rfl⟩, fun _ h => by cases h⟩) ?_)
          obtain ⟨wt, hwt⟩ : ∃ wt, ((ws.setCell ⟨gm, b * 2, none⟩ (.int .i64 x1)).setCell ⟨gm, b * 2 + 1, none⟩ (.int .i64 x2)) = wt := ⟨_, rfl⟩
          have howt : wt.ownsRow w2.heap.size 39 2 (.slice (some ⟨gm, 0, none⟩) l.length cap7) l.length (flat2 ((L.set a (y1, y2)).set b (x1, x2))) := by rw [← hwt]; exact own_put2 Hhows.out hbls (x1, x2)
          have hbwt : Below w2.heap.size w2 wt := by rw [← hwt]; exact ((hbws.setCell (p := ⟨gm, b * 2, none⟩) hgB _).setCell (p := ⟨gm, b * 2 + 1, none⟩) hgB _)
          have hkyt : Bk wt (wd.heap.size) 39 [.int .i64 y1, .int .i64 y2] := by rw [← hwt]; exact ((Hhkys.out.far (p := ⟨gm, b * 2, none⟩) hny _).far (p := ⟨gm, b * 2 + 1, none⟩) hny _)
          rw [hwt]
          clear hwt
          have hyx : (L.set a L[b]).set b L[a] = (L.set a (y1, y2)).set b (x1, x2) := by rw [Hhx.out, Hhy.out]
          have hp2 : (((L.set a (y1, y2)).set b (x1, x2)).map nm).Perm (l.map nm) := by rw [← hyx]; exact (swap_nm hal hbl).trans Hhperm.out
          have hokx : ok2 (x1, x2) := by rw [← Hhx.out]; exact HhokL.out _ (List.getElem_mem hal)
          have hoky : ok2 (y1, y2) := by rw [← Hhy.out]; exact HhokL.out _ (List.getElem_mem hbl)
          have hok2 : ∀ e ∈ (L.set a (y1, y2)).set b (x1, x2), ok2 e := fun e he => by
            rcases List.mem_or_eq_of_mem_set he with h9 | rfl
            · rcases List.mem_or_eq_of_mem_set h9 with h8 | rfl
              · exact HhokL.out e h8
              · exact hoky
            · exact hokx
          have hl2' : ((L.set a (y1, y2)).set b (x1, x2)).length = l.length := by rw [List.length_set, List.length_set]; exact HhLl.out
          have ut : wt.cell? ⟨bb, ob + i, none⟩ = some (.int .u8 un) := (hbwt.cell (p := ⟨bb, ob + i, none⟩) (by show bb < _; omega)).trans ((hbrp.cell (p := ⟨bb, ob + i, none⟩) (by show bb < _; omega)).symm.trans up)
          have fa : ((L.set a (y1, y2)).set b (x1, x2)).length = l.length → a < ((L.set a (y1, y2)).set b (x1, x2)).length := fun h9 => by rw [h9, ← HhLl.out]; exact hal
          have hswap : ((L.set a (y1, y2)).set b (x1, x2))[a]'(fa hl2') = (y1, y2) := by
            by_cases hab : b = a
            · subst hab
              have : (x1, x2) = (y1, y2) := Hhx.out.symm.trans Hhy.out
              simp [this]
            · rw [List.getElem_set_ne (by omega)]
              simp
          generalize (L.set a (y1, y2)).set b (x1, x2) = L2 at *
          have hal2 := fa hl2'
          obtain ⟨et1, et2⟩ := flat2_cell L2 hal2
          have m1 := (howt.cellAt (a * 2) (by omega)).trans et1
          have m2 := (howt.cellAt (a * 2 + 1) (by omega)).trans et2
          rw [hswap] at m1 m2
          have fz1 := howt.frozenAt (a * 2)
          have fz2 := howt.frozenAt (a * 2 + 1)
          have gy1 : wt.cell? ⟨wd.heap.size, 0, none⟩ = some (.int .i64 y1) := hkyt.cell 0
          have gy2 : wt.cell? ⟨wd.heap.size, 1, none⟩ = some (.int .i64 y2) := hkyt.cell 1
          have hflip : (L2.set a (y2, y1)).map nm = L2.map nm := flip_nm hal2 (by rw [hswap]; exact nm_swap _ _)
          have hokf : ∀ e ∈ L2.set a (y2, y1), ok2 e := fun e he => by
            rcases List.mem_or_eq_of_mem_set he with h8 | rfl
            · exact hok2 e h8
            · exact ⟨hoky.2, hoky.1⟩
          have hlf : (L2.set a (y2, y1)).length = l.length := by rw [List.length_set]; exact hl2'
          have hpf : ((L2.set a (y2, y1)).map nm).Perm (l.map nm) := by rw [hflip]; exact hp2
          have hof : ((wt.setCell ⟨gm, a * 2, none⟩ (.int .i64 y2)).setCell ⟨gm, a * 2 + 1, none⟩ (.int .i64 y1)).ownsRow w2.heap.size 39 2 (.slice (some ⟨gm, 0, none⟩) l.length cap7) l.length (flat2 (L2.set a (y2, y1))) := own_put2 howt hal2 (y2, y1)
          have hbf : Below w2.heap.size w2 ((wt.setCell ⟨gm, a * 2, none⟩ (.int .i64 y2)).setCell ⟨gm, a * 2 + 1, none⟩ (.int .i64 y1)) := (hbwt.setCell (p := ⟨gm, a * 2, none⟩) hgB _).setCell (p := ⟨gm, a * 2 + 1, none⟩) hgB _
          clear hswap
          have Hhowt := Lib.hid howt; clear howt; have Hhkyt := Lib.hid hkyt; clear hkyt; have Hhflip := Lib.hid hflip; clear hflip; have Hhokf := Lib.hid hokf; clear hokf; have Hhlf := Lib.hid hlf; clear hlf; have Hhpf := Lib.hid hpf; clear hpf; have Hhof := Lib.hid hof; clear hof; have Hhbf := Lib.hid hbf; clear hbf; have Hhp2 := Lib.hid hp2; clear hp2; have Hhok2 := Lib.hid hok2; clear hok2; have Hhl2' := Lib.hid hl2'; clear hl2'; have Het1 := Lib.hid et1; clear et1; have Het2 := Lib.hid et2; clear et2; have Hhyx := Lib.hid hyx; clear hyx
          by_cases h127 : 127 < (un : Int)
          · go_wp2_with fail
            all_goals first | (exfalso; omega) | skip
            exact ⟨⟨i + 1, L2.set a (y2, y1), by omega, by simp, Hhof.out, Hhlf.out, Hhpf.out, Hhokf.out, Hhbf.out⟩, by simp [intOf]; omega⟩
          · go_wp2_with fail
            all_goals first | (exfalso; omega) | skip
            exact ⟨⟨i + 1, L2, by omega, by simp, Hhowt.out, Hhl2'.out, Hhp2.out, Hhok2.out, hbwt⟩, by simp [intOf]; omega⟩
      · rcases Nat.lt_or_ge i bs.length with h9 | h9
        · have hl0 : ¬ (0 < (l.length : Int)) := by omega
          have hil' : (i : Int) < (bs.length : Int) := by omega
          have hbelq := hbelr
          have hTq := HhT2.out.below keeps_tri (hbr.mono (show B ≤ w2.heap.size by omega))
          have hlq := Hhl2.out.below keeps_pair (hbr.mono (show B ≤ w2.heap.size by omega))
          have hkq := Hhk2.out.below hbr (by omega)
          have s0 : wq.cell? ⟨w.heap.size, 0, none⟩ = some (.int .i64 N) := hkq.cell 0
          have s1 : wq.cell? ⟨w.heap.size, 1, none⟩ = some (.slice A T.length cap) := hkq.cell 1
          have hmsl : Sl 2 RPair wq wq.heap.size (.slice A7 l.length cap7) L := Sl.of_own (by rw [hLl]; exact hown) fun i a hi => flat2_at L i a hi
          have hal1 := along_calls (w := wq) (show B ≤ wq.heap.size by omega) hTq hN hlq Hhok.out (by omega)
          have Hhown := Lib.hid hown; clear hown; have HhTq := Lib.hid hTq; clear hTq; have Hhlq := Lib.hid hlq; clear hlq; have Hhkq := Lib.hid hkq; clear hkq; have Hhmsl := Lib.hid hmsl; clear hmsl; have Hhal1 := Lib.hid hal1; clear hal1; have Hhperm := Lib.hid hperm; clear hperm; have HhokL := Lib.hid hokL; clear hokL; have HhLl := Lib.hid hLl; clear hLl
          go_wp2_with fail
          all_goals first | (exfalso; omega) | skip
          refine Hhal1.out.mono ?_
          rintro e w5 ⟨⟨r, c1, rfl, hend1⟩, hb5⟩
          obtain ⟨n1, X1, m1, q1, wv1, pv1, rfl⟩ := hend1.shape
          have hz5 := hb5.size
          obtain ⟨w6, hw6⟩ : ∃ w6, w5.alloc (.cells #[.int .i64 n1, .slice X1 m1 q1] 24) = w6 := ⟨_, rfl⟩
          have hb6 : Below w5.heap.size w5 w6 := by rw [← hw6]; exact (Below.refl w5.heap.size w5).alloc (Nat.le_refl _) _
          have hk6 : Bk w6 w5.heap.size 24 [.int .i64 n1, .slice X1 m1 q1] := by rw [← hw6]; exact Bk.new w5 _ _
          have hz6 : w5.heap.size + 1 ≤ w6.heap.size := by rw [← hw6]; simp
          have hbq6 : Below wq.heap.size wq w6 := hb5.trans (hb6.mono hz5)
          have hT6 := HhTq.out.below keeps_tri (hbq6.mono (show B ≤ wq.heap.size by omega))
          have hT6' := hT6.keep keeps_tri (Below.refl _ _) (show B ≤ wq.heap.size by omega)
          have hm6 := Hhmsl.out.below keeps_pair hbq6
          have s2 := (hbq6.cell (p := ⟨w.heap.size, 0, none⟩) (by show w.heap.size < _; omega)).trans s0
          have s3 := (hbq6.cell (p := ⟨w.heap.size, 1, none⟩) (by show w.heap.size < _; omega)).trans s1
          have hal2 := along_calls (w := w6) (B := wq.heap.size) (by have := hbq6.size; omega) hT6' hN hm6 HhokL.out (by rw [HhLl.out]; omega)
          have Hhend1 := Lib.hid hend1; clear hend1; have Hhk6 := Lib.hid hk6; clear hk6; have HhT6 := Lib.hid hT6; clear hT6; have HhT6' := Lib.hid hT6'; clear hT6'; have Hhm6 := Lib.hid hm6; clear hm6; have Hhal2 := Lib.hid hal2; clear hal2
          go_wp2_with fail
          clear hw6
          refine Hhal2.out.mono ?_
          rintro e w7 ⟨⟨r, c2, rfl, hend2⟩, hb7⟩
          obtain ⟨n2, X2, m2, q2, wv2, pv2, rfl⟩ := hend2.shape
          have hz7 := hb7.size
          obtain ⟨w8, hw8⟩ : ∃ w8, w7.alloc (.cells #[.int .i64 n2, .slice X2 m2 q2] 24) = w8 := ⟨_, rfl⟩
          have hb8 : Below w7.heap.size w7 w8 := by rw [← hw8]; exact (Below.refl w7.heap.size w7).alloc (Nat.le_refl _) _
          have hk8 : Bk w8 w7.heap.size 24 [.int .i64 n2, .slice X2 m2 q2] := by rw [← hw8]; exact Bk.new w7 _ _
          have hz8 : w7.heap.size + 1 ≤ w8.heap.size := by rw [← hw8]; simp
          have hb68 : Below w6.heap.size w6 w8 := hb7.trans (hb8.mono hz7)
          have hbq8 : Below wq.heap.size wq w8 := hbq6.trans (hb68.mono hbq6.size)
          have hT8 := HhT6.out.below keeps_tri (hb68.mono (show B ≤ w6.heap.size by omega))
          have s4 := (hbq8.cell (p := ⟨w.heap.size, 0, none⟩) (by show w.heap.size < _; omega)).trans s0
          have s5 := (hbq8.cell (p := ⟨w.heap.size, 1, none⟩) (by show w.heap.size < _; omega)).trans s1
          have hal3 := along_calls (w := w8) (l := []) (show B ≤ w8.heap.size by omega) hT8 hN (Sl.nil _ _) (fun e he => absurd he List.not_mem_nil) (by decide)
          have Hhend2 := Lib.hid hend2; clear hend2; have Hhk8 := Lib.hid hk8; clear hk8; have HhT8 := Lib.hid hT8; clear hT8; have Hhal3 := Lib.hid hal3; clear hal3
          go_wp2_with fail
          clear hw8
          refine Hhal3.out.mono ?_
          rintro e w9 ⟨⟨r, c3, rfl, hend3⟩, hb9⟩
          have hz9 := hb9.size
          have hb89 := hb9
          have hk89 := Hhk8.out.below hb9 (by omega)
          have hk69 := Hhk6.out.below (hb68.trans (hb9.mono (by omega))) (by omega)
          have hbq9 := hbq8.trans (hb9.mono (by omega))
          have hbel9 := hbelq.trans (hbq9.mono hbelq.size)
          have hend1 := Hhend1.out
          have hend2 := Hhend2.out
          have hone : c1 = 0 ↔ c2 = 0 := by
            constructor
            · rintro rfl
              obtain ⟨_, _, _, Es, _, hcut, _⟩ := hend1.ok
              have ho := hcut.other Hhperm.out
              exact hend2.1.is ho.surf ho.clean ho.idle ho.few
            · rintro rfl
              obtain ⟨_, _, _, Es, _, hcut, _⟩ := hend2.ok
              have ho := hcut.other Hhperm.out.symm
              exact hend1.1.is ho.surf ho.clean ho.idle ho.few
          -- what is cut along nothing is as it was
          obtain ⟨n3, X3, m3, q3, wv3, pv3, rfl⟩ := hend3.shape
          have hx3 : c3 = 0 → n3 = N ∧ m3 = T.length ∧ Sl 3 RTri w9 w9.heap.size (.slice X3 m3 q3) T := fun h9 => by
            subst h9
            obtain ⟨Es, hcut, hn, hX3, _⟩ := along_parts hend3
            rw [List.map_nil, newO_none hcut.surf, List.length_map, List.length_range] at hn
            rw [List.map_nil, newX_none hcut.surf] at hX3
            have h0 := hcut.surf.n0
            exact ⟨by omega, hX3.len.1, hX3⟩
          obtain ⟨w10, hw10⟩ : ∃ w10, w9.alloc (.cells #[.int .i64 n3, .slice X3 m3 q3] 24) = w10 := ⟨_, rfl⟩
          have hb10 : Below w9.heap.size w9 w10 := by rw [← hw10]; exact (Below.refl w9.heap.size w9).alloc (Nat.le_refl _) _
          have hk10 : Bk w10 w9.heap.size 24 [.int .i64 n3, .slice X3 m3 q3] := by rw [← hw10]; exact Bk.new w9 _ _
          have hz10 : w9.heap.size + 1 ≤ w10.heap.size := by rw [← hw10]; simp
          have hk810 := hk89.below hb10 (by have := hk89.lt; omega)
          have hk610 := hk69.below hb10 (by have := hk69.lt; omega)
          have hbq10 := hbq9.trans (hb10.mono (by have := hbq9.size; omega))
          have hbel10 := hbel9.trans (hb10.mono hbel9.size)
          have hT10 := HhTq.out.below keeps_tri (hbq10.mono (show B ≤ wq.heap.size by omega))
          have t0 := (hbq10.cell (p := ⟨w.heap.size, 0, none⟩) (by show w.heap.size < _; omega)).trans s0
          have t1 := (hbq10.cell (p := ⟨w.heap.size, 1, none⟩) (by show w.heap.size < _; omega)).trans s1
          have t2 : w10.cell? ⟨w9.heap.size, 0, none⟩ = some (.int .i64 n3) := hk10.cell 0
          have t3 : w10.cell? ⟨w9.heap.size, 1, none⟩ = some (.slice X3 m3 q3) := hk10.cell 1
          have t4 : w10.cell? ⟨w5.heap.size, 0, none⟩ = some (.int .i64 n1) := hk610.cell 0
          have t5 : w10.cell? ⟨w5.heap.size, 1, none⟩ = some (.slice X1 m1 q1) := hk610.cell 1
          have t6 : w10.cell? ⟨w7.heap.size, 0, none⟩ = some (.int .i64 n2) := hk810.cell 0
          have t7 : w10.cell? ⟨w7.heap.size, 1, none⟩ = some (.slice X2 m2 q2) := hk810.cell 1
          have hx10 : c3 = 0 → n3 = N ∧ m3 = T.length ∧ Sl 3 RTri w10 w10.heap.size (.slice X3 m3 q3) T := fun h9 => by
            obtain ⟨h1, h2, h3⟩ := hx3 h9
            exact ⟨h1, h2, (h3.below keeps_tri hb10).keep keeps_tri (Below.refl _ _) (by omega)⟩
          have hTl : T.length ≤ 1000000 := by omega
          clear hx3
          by_cases hc1 : c1 = 0
          case neg =>
            have hc2 : ¬ c2 = 0 := fun h9 => hc1 (hone.2 h9)
            have e1 : (c1 == 0) = false := beq_eq_false_iff_ne.2 hc1
            have e2 : (c2 == 0) = false := beq_eq_false_iff_ne.2 hc2
            have e3 : (c1 != 0) = true := bne_iff_ne.2 hc1
            by_cases hc3 : c3 = 0
            · obtain ⟨rfl, rfl, hX10⟩ := hx10 hc3
              subst hc3
              have hsa := same15_calls (w := w10) (Na := n3) (Nb := n3) hX10 (hT10.keep keeps_tri (Below.refl _ _) (show B ≤ w10.heap.size by have := hbq10.size; omega)) (Nat.le_refl _) hTl
              rw [decide_eq_true (show n3 = n3 ∧ T = T from ⟨rfl, rfl⟩)] at hsa
              have Hhone := Lib.hid hone; clear hone; have Hhx10 := Lib.hid hx10; clear hx10; have HhX10 := Lib.hid hX10; clear hX10; have HhT10 := Lib.hid hT10; clear hT10; have Hhsa := Lib.hid hsa; clear hsa; have Hhend1 := Lib.hid hend1; clear hend1; have Hhend2 := Lib.hid hend2; clear hend2; have Hhend3 := Lib.hid hend3; clear hend3; have Hhk69 := Lib.hid hk69; clear hk69; have Hhk89 := Lib.hid hk89; clear hk89; have Hhk10 := Lib.hid hk10; clear hk10; have Hhk610 := Lib.hid hk610; clear hk610; have Hhk810 := Lib.hid hk810; clear hk810
              go_wp2_with fail
              clear hw10
              refine Hhsa.out.mono ?_
              rintro e wz ⟨rfl, hbz⟩
              have hbf := hbel10.trans (hbz.mono hbel10.size)
              go_wp2_with fail
              go_ret
              exact ⟨rfl, hbf⟩
            · have e4 : (c3 == 0) = false := beq_eq_false_iff_ne.2 hc3
              have Hhone := Lib.hid hone; clear hone; have Hhx10 := Lib.hid hx10; clear hx10; have HhT10 := Lib.hid hT10; clear hT10; have Hhend1 := Lib.hid hend1; clear hend1; have Hhend2 := Lib.hid hend2; clear hend2; have Hhend3 := Lib.hid hend3; clear hend3; have Hhk69 := Lib.hid hk69; clear hk69; have Hhk89 := Lib.hid hk89; clear hk89; have Hhk10 := Lib.hid hk10; clear hk10; have Hhk610 := Lib.hid hk610; clear hk610; have Hhk810 := Lib.hid hk810; clear hk810
              go_wp2_with fail
              go_ret
              exact ⟨rfl, hbel10⟩
          case pos =>
            obtain rfl := hone.1 hc1
            subst hc1
            obtain ⟨Es1, hcut1, hn1, hX1, hO1, hP1⟩ := along_parts hend1
            obtain ⟨Es2, hcut2, hn2, hX2, hO2, hP2⟩ := along_parts hend2
            have hmem : ∀ x, x ∈ L.map nm ↔ x ∈ l.map nm := fun x => Hhperm.out.mem_iff
            rw [newX_same hmem] at hX2
            rw [newO_same hmem] at hO2 hn2
            rw [edges_one hcut2.edges hcut1.edges, pairs_other Hhperm.out] at hP2
            have h30 : c3 = 0 := hend3.1.is hcut1.surf (fun i h => absurd h (by simp)) rfl (by
              rw [List.map_nil, newO_none hcut1.surf, List.length_map, List.length_range]
              have := hcut1.surf.nmax
              have := hcut1.surf.n0
              omega)
            obtain ⟨rfl, rfl, hX10⟩ := hx10 h30
            subst h30
            have hXl := hcut1.numb.len
            have hfew := hcut1.few
            have hPl := hcut1.len
            generalize pairsL n3 T l Es1 = P at *
            generalize newX n3 T (l.map nm) = X at *
            generalize newO n3 T (l.map nm) = O at *
            obtain ⟨rfl, _⟩ := hX1.len
            obtain ⟨hm2, _⟩ := hX2.len
            subst hm2
            obtain ⟨A11, cap11, rfl, hc11⟩ := hO1.form
            obtain ⟨A12, cap12, rfl, hc12⟩ := hO2.form
            obtain ⟨A13, cap13, rfl, hc13⟩ := hP1.form
            obtain ⟨A14, cap14, rfl, hc14⟩ := hP2.form
            have hb510 : Below w5.heap.size w5 w10 := ((hb6.trans (hb68.mono (by omega))).trans (hb9.mono (by omega))).trans (hb10.mono (by omega))
            have hb710 : Below w7.heap.size w7 w10 := (hb8.trans (hb9.mono (by omega))).trans (hb10.mono (by omega))
            have hz510 := hb510.size
            have hz710 := hb710.size
            have hX1' := (hX1.below keeps_tri hb510).keep keeps_tri (Below.refl _ _) hz510
            have hX2' := (hX2.below keeps_tri hb710).keep keeps_tri (Below.refl _ _) hz710
            have hO1' := (hO1.below keeps_int hb510).keep keeps_int (Below.refl _ _) hz510
            have hO2' := (hO2.below keeps_int hb710).keep keeps_int (Below.refl _ _) hz710
            have hP1' := (hP1.below keeps_4 hb510).keep keeps_4 (Below.refl _ _) hz510
            have hP2' := (hP2.below keeps_4 hb710).keep keeps_4 (Below.refl _ _) hz710
            have hsa := same15_calls (w := w10) (Na := n3) (Nb := n3) hX10 (hT10.keep keeps_tri (Below.refl _ _) (show B ≤ w10.heap.size by have := hbq10.size; omega)) (Nat.le_refl _) hTl
            rw [decide_eq_true (show n3 = n3 ∧ T = T from ⟨rfl, rfl⟩)] at hsa
            obtain rfl : n1 = n2 := hn1.trans hn2.symm
            have hXl9 : X.length ≤ 1000000 := by omega
            have hOl9 : O.length ≤ 1000000 := by omega
            have hPl9 : P.length ≤ 1000000 := by omega
            have hsb := fun wz (hz : Below w10.heap.size w10 wz) => same15_calls (w := wz) (Na := n1) (Nb := n1) ((hX1'.below keeps_tri hz).keep keeps_tri (Below.refl _ _) hz.size) ((hX2'.below keeps_tri hz).keep keeps_tri (Below.refl _ _) hz.size) (Nat.le_refl _) hXl9
            have hsi := fun wz (hz : Below w10.heap.size w10 wz) => ints_calls (w := wz) ((hO1'.below keeps_int hz).keep keeps_int (Below.refl _ _) hz.size) ((hO2'.below keeps_int hz).keep keeps_int (Below.refl _ _) hz.size) (Nat.le_refl _) hOl9
            rw [decide_eq_true (rfl : O = O)] at hsi
            rw [decide_eq_true (show n1 = n1 ∧ X = X from ⟨rfl, rfl⟩)] at hsb
            have hg5 : w5.heap.size < w10.heap.size := by omega
            have hg7 : w7.heap.size < w10.heap.size := by omega
            have Hhone := Lib.hid hone; clear hone; have Hhx10 := Lib.hid hx10; clear hx10; have HhX10 := Lib.hid hX10; clear hX10; have HhT10 := Lib.hid hT10; clear hT10; have Hhsa := Lib.hid hsa; clear hsa; have Hhsb := Lib.hid hsb; clear hsb; have Hhsi := Lib.hid hsi; clear hsi; have Hhend1 := Lib.hid hend1; clear hend1; have Hhend2 := Lib.hid hend2; clear hend2; have Hhend3 := Lib.hid hend3; clear hend3; have Hhk69 := Lib.hid hk69; clear hk69; have Hhk89 := Lib.hid hk89; clear hk89; have Hhk10 := Lib.hid hk10; clear hk10; have Hhk610 := Lib.hid hk610; clear hk610; have Hhk810 := Lib.hid hk810; clear hk810; have Hhcut1 := Lib.hid hcut1; clear hcut1; have Hhcut2 := Lib.hid hcut2; clear hcut2; have HhX1 := Lib.hid hX1; clear hX1; have HhX2 := Lib.hid hX2; clear hX2; have HhO1 := Lib.hid hO1; clear hO1; have HhO2 := Lib.hid hO2; clear hO2; have HhP1 := Lib.hid hP1; clear hP1; have HhP2 := Lib.hid hP2; clear hP2; have HhX1' := Lib.hid hX1'; clear hX1'; have HhX2' := Lib.hid hX2'; clear hX2'; have HhO1' := Lib.hid hO1'; clear hO1'; have HhO2' := Lib.hid hO2'; clear hO2'; have HhP1' := Lib.hid hP1'; clear hP1'; have HhP2' := Lib.hid hP2'; clear hP2'; have Hhn1 := Lib.hid hn1; clear hn1; have Hhn2 := Lib.hid hn2; clear hn2; have HhXl := Lib.hid hXl; clear hXl; have HhPl := Lib.hid hPl; clear hPl; have Hhmem := Lib.hid hmem; clear hmem
            go_wp2_with fail
            clear hw10
            refine Hhsa.out.mono ?_
            rintro e w11 ⟨rfl, hb11⟩
            have hz11 := hb11.size
            have hbel11 := hbel10.trans (hb11.mono hbel10.size)
            have hsb11 := Hhsb.out w11 hb11
            have v4 := (hb11.cell (p := ⟨w5.heap.size, 0, none⟩) hg5).trans t4
            have v5 := (hb11.cell (p := ⟨w5.heap.size, 1, none⟩) hg5).trans t5
            have v6 := (hb11.cell (p := ⟨w7.heap.size, 0, none⟩) hg7).trans t6
            have v7 := (hb11.cell (p := ⟨w7.heap.size, 1, none⟩) hg7).trans t7
            have Hhsb11 := Lib.hid hsb11; clear hsb11
            go_wp2_with fail
            refine Hhsb11.out.mono ?_
            rintro e w12 ⟨rfl, hb12⟩
            have hb1012 := hb11.trans (hb12.mono hz11)
            have hbel12 := hbel11.trans (hb12.mono hbel11.size)
            have hsi12 := Hhsi.out w12 hb1012
            have Hhsi12 := Lib.hid hsi12; clear hsi12
            go_wp2_with fail
            refine Hhsi12.out.mono ?_
            rintro e w13 ⟨rfl, hb13⟩
            have hb1013 := hb1012.trans (hb13.mono hb1012.size)
            have hbel13 := hbel12.trans (hb13.mono hbel12.size)
            have hr13 := Below.refl w13.heap.size w13
            go_wp2_with fail
            all_goals first | (exfalso; omega) | skip
            go_loopw [25] (fun iv wr => ∃ k : Nat, k ≤ P.length ∧ iv = .int .i64 (k : Int) ∧ Below w13.heap.size w13 wr) (fun iv _ => P.length - (intOf iv).toNat)
            case atStart => exact ⟨0, by omega, rfl, hr13⟩
            case round =>
              obtain ⟨k, hk, rfl, hbr3⟩ := hrel
              have hb10r := hb1013.trans (hbr3.mono hb1013.size)
              by_cases hkl : k < P.length
              · obtain ⟨ba, oa, rfl, hba, x1', x2', x3', x4'⟩ := (HhP1'.out.below keeps_4 hb10r).p4_at (List.getElem?_eq_getElem hkl)
                obtain ⟨bc, oc, rfl, hbc, y1', y2', y3', y4'⟩ := (HhP2'.out.below keeps_4 hb10r).p4_at (List.getElem?_eq_getElem hkl)
                generalize P[k] = pp at *
                obtain ⟨⟨z1, z2⟩, z3, z4⟩ := pp
                simp only [] at x1' x2' x3' x4' y1' y2' y3' y4'
                have hq := pair_same z1 z2 z3 z4
                have hbr3' := hbr3.drew
                go_wp2_with fail
                refine Go.Canon.wp_region_text mixed (by kernel_rfl) ?_
                go_wp2_with fail
                refine Go.Canon.chk (by rfl) ?_
                go_wp2_with fail
                exact ⟨⟨k + 1, by omega, by simp, hbr3'⟩, by simp [intOf]; omega⟩
              · obtain rfl : k = P.length := by omega
                have hbf := hbel13.trans (hbr3.mono hbel13.size)
                go_wp2_with fail
                go_ret
                exact ⟨rfl, hbf⟩
        · obtain rfl : i = bs.length := by omega
          have hbelq := hbelr
          have hTq := HhT2.out.below keeps_tri (hbr.mono (show B ≤ w2.heap.size by omega))
          have hlq := Hhl2.out.below keeps_pair (hbr.mono (show B ≤ w2.heap.size by omega))
          have hkq := Hhk2.out.below hbr (by omega)
          have s0 : wq.cell? ⟨w.heap.size, 0, none⟩ = some (.int .i64 N) := hkq.cell 0
          have s1 : wq.cell? ⟨w.heap.size, 1, none⟩ = some (.slice A T.length cap) := hkq.cell 1
          have hmsl : Sl 2 RPair wq wq.heap.size (.slice A7 l.length cap7) L := Sl.of_own (by rw [hLl]; exact hown) fun i a hi => flat2_at L i a hi
          have hal1 := along_calls (w := wq) (show B ≤ wq.heap.size by omega) hTq hN hlq Hhok.out (by omega)
          have Hhown := Lib.hid hown; clear hown; have HhTq := Lib.hid hTq; clear hTq; have Hhlq := Lib.hid hlq; clear hlq; have Hhkq := Lib.hid hkq; clear hkq; have Hhmsl := Lib.hid hmsl; clear hmsl; have Hhal1 := Lib.hid hal1; clear hal1; have Hhperm := Lib.hid hperm; clear hperm; have HhokL := Lib.hid hokL; clear hokL; have HhLl := Lib.hid hLl; clear hLl
          go_wp2_with fail
          all_goals first | (exfalso; omega) | skip
          refine Hhal1.out.mono ?_
          rintro e w5 ⟨⟨r, c1, rfl, hend1⟩, hb5⟩
          obtain ⟨n1, X1, m1, q1, wv1, pv1, rfl⟩ := hend1.shape
          have hz5 := hb5.size
          obtain ⟨w6, hw6⟩ : ∃ w6, w5.alloc (.cells #[.int .i64 n1, .slice X1 m1 q1] 24) = w6 := ⟨_, rfl⟩
          have hb6 : Below w5.heap.size w5 w6 := by rw [← hw6]; exact (Below.refl w5.heap.size w5).alloc (Nat.le_refl _) _
          have hk6 : Bk w6 w5.heap.size 24 [.int .i64 n1, .slice X1 m1 q1] := by rw [← hw6]; exact Bk.new w5 _ _
          have hz6 : w5.heap.size + 1 ≤ w6.heap.size := by rw [← hw6]; simp
          have hbq6 : Below wq.heap.size wq w6 := hb5.trans (hb6.mono hz5)
          have hT6 := HhTq.out.below keeps_tri (hbq6.mono (show B ≤ wq.heap.size by omega))
          have hT6' := hT6.keep keeps_tri (Below.refl _ _) (show B ≤ wq.heap.size by omega)
          have hm6 := Hhmsl.out.below keeps_pair hbq6
          have s2 := (hbq6.cell (p := ⟨w.heap.size, 0, none⟩) (by show w.heap.size < _; omega)).trans s0
          have s3 := (hbq6.cell (p := ⟨w.heap.size, 1, none⟩) (by show w.heap.size < _; omega)).trans s1
          have hal2 := along_calls (w := w6) (B := wq.heap.size) (by have := hbq6.size; omega) hT6' hN hm6 HhokL.out (by rw [HhLl.out]; omega)
          have Hhend1 := Lib.hid hend1; clear hend1; have Hhk6 := Lib.hid hk6; clear hk6; have HhT6 := Lib.hid hT6; clear hT6; have HhT6' := Lib.hid hT6'; clear hT6'; have Hhm6 := Lib.hid hm6; clear hm6; have Hhal2 := Lib.hid hal2; clear hal2
          go_wp2_with fail
          clear hw6
          refine Hhal2.out.mono ?_
          rintro e w7 ⟨⟨r, c2, rfl, hend2⟩, hb7⟩
          obtain ⟨n2, X2, m2, q2, wv2, pv2, rfl⟩ := hend2.shape
          have hz7 := hb7.size
          obtain ⟨w8, hw8⟩ : ∃ w8, w7.alloc (.cells #[.int .i64 n2, .slice X2 m2 q2] 24) = w8 := ⟨_, rfl⟩
          have hb8 : Below w7.heap.size w7 w8 := by rw [← hw8]; exact (Below.refl w7.heap.size w7).alloc (Nat.le_refl _) _
          have hk8 : Bk w8 w7.heap.size 24 [.int .i64 n2, .slice X2 m2 q2] := by rw [← hw8]; exact Bk.new w7 _ _
          have hz8 : w7.heap.size + 1 ≤ w8.heap.size := by rw [← hw8]; simp
          have hb68 : Below w6.heap.size w6 w8 := hb7.trans (hb8.mono hz7)
          have hbq8 : Below wq.heap.size wq w8 := hbq6.trans (hb68.mono hbq6.size)
          have hT8 := HhT6.out.below keeps_tri (hb68.mono (show B ≤ w6.heap.size by omega))
          have s4 := (hbq8.cell (p := ⟨w.heap.size, 0, none⟩) (by show w.heap.size < _; omega)).trans s0
          have s5 := (hbq8.cell (p := ⟨w.heap.size, 1, none⟩) (by show w.heap.size < _; omega)).trans s1
          have hal3 := along_calls (w := w8) (l := []) (show B ≤ w8.heap.size by omega) hT8 hN (Sl.nil _ _) (fun e he => absurd he List.not_mem_nil) (by decide)
          have Hhend2 := Lib.hid hend2; clear hend2; have Hhk8 := Lib.hid hk8; clear hk8; have HhT8 := Lib.hid hT8; clear hT8; have Hhal3 := Lib.hid hal3; clear hal3
          go_wp2_with fail
          clear hw8
          refine Hhal3.out.mono ?_
          rintro e w9 ⟨⟨r, c3, rfl, hend3⟩, hb9⟩
          have hz9 := hb9.size
          have hb89 := hb9
          have hk89 := Hhk8.out.below hb9 (by omega)
          have hk69 := Hhk6.out.below (hb68.trans (hb9.mono (by omega))) (by omega)
          have hbq9 := hbq8.trans (hb9.mono (by omega))
          have hbel9 := hbelq.trans (hbq9.mono hbelq.size)
          have hend1 := Hhend1.out
          have hend2 := Hhend2.out
          have hone : c1 = 0 ↔ c2 = 0 := by
            constructor
            · rintro rfl
              obtain ⟨_, _, _, Es, _, hcut, _⟩ := hend1.ok
              have ho := hcut.other Hhperm.out
              exact hend2.1.is ho.surf ho.clean ho.idle ho.few
            · rintro rfl
              obtain ⟨_, _, _, Es, _, hcut, _⟩ := hend2.ok
              have ho := hcut.other Hhperm.out.symm
              exact hend1.1.is ho.surf ho.clean ho.idle ho.few
          -- what is cut along nothing is as it was
          obtain ⟨n3, X3, m3, q3, wv3, pv3, rfl⟩ := hend3.shape
          have hx3 : c3 = 0 → n3 = N ∧ m3 = T.length ∧ Sl 3 RTri w9 w9.heap.size (.slice X3 m3 q3) T := fun h9 => by
            subst h9
            obtain ⟨Es, hcut, hn, hX3, _⟩ := along_parts hend3
            rw [List.map_nil, newO_none hcut.surf, List.length_map, List.length_range] at hn
            rw [List.map_nil, newX_none hcut.surf] at hX3
            have h0 := hcut.surf.n0
            exact ⟨by omega, hX3.len.1, hX3⟩
          obtain ⟨w10, hw10⟩ : ∃ w10, w9.alloc (.cells #[.int .i64 n3, .slice X3 m3 q3] 24) = w10 := ⟨_, rfl⟩
          have hb10 : Below w9.heap.size w9 w10 := by rw [← hw10]; exact (Below.refl w9.heap.size w9).alloc (Nat.le_refl _) _
          have hk10 : Bk w10 w9.heap.size 24 [.int .i64 n3, .slice X3 m3 q3] := by rw [← hw10]; exact Bk.new w9 _ _
          have hz10 : w9.heap.size + 1 ≤ w10.heap.size := by rw [← hw10]; simp
          have hk810 := hk89.below hb10 (by have := hk89.lt; omega)
          have hk610 := hk69.below hb10 (by have := hk69.lt; omega)
          have hbq10 := hbq9.trans (hb10.mono (by have := hbq9.size; omega))
          have hbel10 := hbel9.trans (hb10.mono hbel9.size)
          have hT10 := HhTq.out.below keeps_tri (hbq10.mono (show B ≤ wq.heap.size by omega))
          have t0 := (hbq10.cell (p := ⟨w.heap.size, 0, none⟩) (by show w.heap.size < _; omega)).trans s0
          have t1 := (hbq10.cell (p := ⟨w.heap.size, 1, none⟩) (by show w.heap.size < _; omega)).trans s1
          have t2 : w10.cell? ⟨w9.heap.size, 0, none⟩ = some (.int .i64 n3) := hk10.cell 0
          have t3 : w10.cell? ⟨w9.heap.size, 1, none⟩ = some (.slice X3 m3 q3) := hk10.cell 1
          have t4 : w10.cell? ⟨w5.heap.size, 0, none⟩ = some (.int .i64 n1) := hk610.cell 0
          have t5 : w10.cell? ⟨w5.heap.size, 1, none⟩ = some (.slice X1 m1 q1) := hk610.cell 1
          have t6 : w10.cell? ⟨w7.heap.size, 0, none⟩ = some (.int .i64 n2) := hk810.cell 0
          have t7 : w10.cell? ⟨w7.heap.size, 1, none⟩ = some (.slice X2 m2 q2) := hk810.cell 1
          have hx10 : c3 = 0 → n3 = N ∧ m3 = T.length ∧ Sl 3 RTri w10 w10.heap.size (.slice X3 m3 q3) T := fun h9 => by
            obtain ⟨h1, h2, h3⟩ := hx3 h9
            exact ⟨h1, h2, (h3.below keeps_tri hb10).keep keeps_tri (Below.refl _ _) (by omega)⟩
          have hTl : T.length ≤ 1000000 := by omega
          clear hx3
          by_cases hc1 : c1 = 0
          case neg =>
            have hc2 : ¬ c2 = 0 := fun h9 => hc1 (hone.2 h9)
            have e1 : (c1 == 0) = false := beq_eq_false_iff_ne.2 hc1
            have e2 : (c2 == 0) = false := beq_eq_false_iff_ne.2 hc2
            have e3 : (c1 != 0) = true := bne_iff_ne.2 hc1
            by_cases hc3 : c3 = 0
            · obtain ⟨rfl, rfl, hX10⟩ := hx10 hc3
              subst hc3
              have hsa := same15_calls (w := w10) (Na := n3) (Nb := n3) hX10 (hT10.keep keeps_tri (Below.refl _ _) (show B ≤ w10.heap.size by have := hbq10.size; omega)) (Nat.le_refl _) hTl
              rw [decide_eq_true (show n3 = n3 ∧ T = T from ⟨rfl, rfl⟩)] at hsa
              have Hhone := Lib.hid hone; clear hone; have Hhx10 := Lib.hid hx10; clear hx10; have HhX10 := Lib.hid hX10; clear hX10; have HhT10 := Lib.hid hT10; clear hT10; have Hhsa := Lib.hid hsa; clear hsa; have Hhend1 := Lib.hid hend1; clear hend1; have Hhend2 := Lib.hid hend2; clear hend2; have Hhend3 := Lib.hid hend3; clear hend3; have Hhk69 := Lib.hid hk69; clear hk69; have Hhk89 := Lib.hid hk89; clear hk89; have Hhk10 := Lib.hid hk10; clear hk10; have Hhk610 := Lib.hid hk610; clear hk610; have Hhk810 := Lib.hid hk810; clear hk810
              go_wp2_with fail
              clear hw10
              refine Hhsa.out.mono ?_
              rintro e wz ⟨rfl, hbz⟩
              have hbf := hbel10.trans (hbz.mono hbel10.size)
              go_wp2_with fail
              go_ret
              exact ⟨rfl, hbf⟩
            · have e4 : (c3 == 0) = false := beq_eq_false_iff_ne.2 hc3
              have Hhone := Lib.hid hone; clear hone; have Hhx10 := Lib.hid hx10; clear hx10; have HhT10 := Lib.hid hT10; clear hT10; have Hhend1 := Lib.hid hend1; clear hend1; have Hhend2 := Lib.hid hend2; clear hend2; have Hhend3 := Lib.hid hend3; clear hend3; have Hhk69 := Lib.hid hk69; clear hk69; have Hhk89 := Lib.hid hk89; clear hk89; have Hhk10 := Lib.hid hk10; clear hk10; have Hhk610 := Lib.hid hk610; clear hk610; have Hhk810 := Lib.hid hk810; clear hk810
              go_wp2_with fail
              go_ret
              exact ⟨rfl, hbel10⟩
          case pos =>
            obtain rfl := hone.1 hc1
            subst hc1
            obtain ⟨Es1, hcut1, hn1, hX1, hO1, hP1⟩ := along_parts hend1
            obtain ⟨Es2, hcut2, hn2, hX2, hO2, hP2⟩ := along_parts hend2
            have hmem : ∀ x, x ∈ L.map nm ↔ x ∈ l.map nm := fun x => Hhperm.out.mem_iff
            rw [newX_same hmem] at hX2
            rw [newO_same hmem] at hO2 hn2
            rw [edges_one hcut2.edges hcut1.edges, pairs_other Hhperm.out] at hP2
            have h30 : c3 = 0 := hend3.1.is hcut1.surf (fun i h => absurd h (by simp)) rfl (by
              rw [List.map_nil, newO_none hcut1.surf, List.length_map, List.length_range]
              have := hcut1.surf.nmax
              have := hcut1.surf.n0
              omega)
            obtain ⟨rfl, rfl, hX10⟩ := hx10 h30
            subst h30
            have hXl := hcut1.numb.len
            have hfew := hcut1.few
            have hPl := hcut1.len
            generalize pairsL n3 T l Es1 = P at *
            generalize newX n3 T (l.map nm) = X at *
            generalize newO n3 T (l.map nm) = O at *
            obtain ⟨rfl, _⟩ := hX1.len
            obtain ⟨hm2, _⟩ := hX2.len
            subst hm2
            obtain ⟨A11, cap11, rfl, hc11⟩ := hO1.form
            obtain ⟨A12, cap12, rfl, hc12⟩ := hO2.form
            obtain ⟨A13, cap13, rfl, hc13⟩ := hP1.form
            obtain ⟨A14, cap14, rfl, hc14⟩ := hP2.form
            have hb510 : Below w5.heap.size w5 w10 := ((hb6.trans (hb68.mono (by omega))).trans (hb9.mono (by omega))).trans (hb10.mono (by omega))
            have hb710 : Below w7.heap.size w7 w10 := (hb8.trans (hb9.mono (by omega))).trans (hb10.mono (by omega))
            have hz510 := hb510.size
            have hz710 := hb710.size
            have hX1' := (hX1.below keeps_tri hb510).keep keeps_tri (Below.refl _ _) hz510
            have hX2' := (hX2.below keeps_tri hb710).keep keeps_tri (Below.refl _ _) hz710
            have hO1' := (hO1.below keeps_int hb510).keep keeps_int (Below.refl _ _) hz510
            have hO2' := (hO2.below keeps_int hb710).keep keeps_int (Below.refl _ _) hz710
            have hP1' := (hP1.below keeps_4 hb510).keep keeps_4 (Below.refl _ _) hz510
            have hP2' := (hP2.below keeps_4 hb710).keep keeps_4 (Below.refl _ _) hz710
            have hsa := same15_calls (w := w10) (Na := n3) (Nb := n3) hX10 (hT10.keep keeps_tri (Below.refl _ _) (show B ≤ w10.heap.size by have := hbq10.size; omega)) (Nat.le_refl _) hTl
            rw [decide_eq_true (show n3 = n3 ∧ T = T from ⟨rfl, rfl⟩)] at hsa
            obtain rfl : n1 = n2 := hn1.trans hn2.symm
            have hXl9 : X.length ≤ 1000000 := by omega
            have hOl9 : O.length ≤ 1000000 := by omega
            have hPl9 : P.length ≤ 1000000 := by omega
            have hsb := fun wz (hz : Below w10.heap.size w10 wz) => same15_calls (w := wz) (Na := n1) (Nb := n1) ((hX1'.below keeps_tri hz).keep keeps_tri (Below.refl _ _) hz.size) ((hX2'.below keeps_tri hz).keep keeps_tri (Below.refl _ _) hz.size) (Nat.le_refl _) hXl9
            have hsi := fun wz (hz : Below w10.heap.size w10 wz) => ints_calls (w := wz) ((hO1'.below keeps_int hz).keep keeps_int (Below.refl _ _) hz.size) ((hO2'.below keeps_int hz).keep keeps_int (Below.refl _ _) hz.size) (Nat.le_refl _) hOl9
            rw [decide_eq_true (rfl : O = O)] at hsi
            rw [decide_eq_true (show n1 = n1 ∧ X = X from ⟨rfl, rfl⟩)] at hsb
            have hg5 : w5.heap.size < w10.heap.size := by omega
            have hg7 : w7.heap.size < w10.heap.size := by omega
            have Hhone := Lib.hid hone; clear hone; have Hhx10 := Lib.hid hx10; clear hx10; have HhX10 := Lib.hid hX10; clear hX10; have HhT10 := Lib.hid hT10; clear hT10; have Hhsa := Lib.hid hsa; clear hsa; have Hhsb := Lib.hid hsb; clear hsb; have Hhsi := Lib.hid hsi; clear hsi; have Hhend1 := Lib.hid hend1; clear hend1; have Hhend2 := Lib.hid hend2; clear hend2; have Hhend3 := Lib.hid hend3; clear hend3; have Hhk69 := Lib.hid hk69; clear hk69; have Hhk89 := Lib.hid hk89; clear hk89; have Hhk10 := Lib.hid hk10; clear hk10; have Hhk610 := Lib.hid hk610; clear hk610; have Hhk810 := Lib.hid hk810; clear hk810; have Hhcut1 := Lib.hid hcut1; clear hcut1; have Hhcut2 := Lib.hid hcut2; clear hcut2; have HhX1 := Lib.hid hX1; clear hX1; have HhX2 := Lib.hid hX2; clear hX2; have HhO1 := Lib.hid hO1; clear hO1; have HhO2 := Lib.hid hO2; clear hO2; have HhP1 := Lib.hid hP1; clear hP1; have HhP2 := Lib.hid hP2; clear hP2; have HhX1' := Lib.hid hX1'; clear hX1'; have HhX2' := Lib.hid hX2'; clear hX2'; have HhO1' := Lib.hid hO1'; clear hO1'; have HhO2' := Lib.hid hO2'; clear hO2'; have HhP1' := Lib.hid hP1'; clear hP1'; have HhP2' := Lib.hid hP2'; clear hP2'; have Hhn1 := Lib.hid hn1; clear hn1; have Hhn2 := Lib.hid hn2; clear hn2; have HhXl := Lib.hid hXl; clear hXl; have HhPl := Lib.hid hPl; clear hPl; have Hhmem := Lib.hid hmem; clear hmem
            go_wp2_with fail
            clear hw10
            refine Hhsa.out.mono ?_
            rintro e w11 ⟨rfl, hb11⟩
            have hz11 := hb11.size
            have hbel11 := hbel10.trans (hb11.mono hbel10.size)
            have hsb11 := Hhsb.out w11 hb11
            have v4 := (hb11.cell (p := ⟨w5.heap.size, 0, none⟩) hg5).trans t4
            have v5 := (hb11.cell (p := ⟨w5.heap.size, 1, none⟩) hg5).trans t5
            have v6 := (hb11.cell (p := ⟨w7.heap.size, 0, none⟩) hg7).trans t6
            have v7 := (hb11.cell (p := ⟨w7.heap.size, 1, none⟩) hg7).trans t7
            have Hhsb11 := Lib.hid hsb11; clear hsb11
            go_wp2_with fail
            refine Hhsb11.out.mono ?_
            rintro e w12 ⟨rfl, hb12⟩
            have hb1012 := hb11.trans (hb12.mono hz11)
            have hbel12 := hbel11.trans (hb12.mono hbel11.size)
            have hsi12 := Hhsi.out w12 hb1012
            have Hhsi12 := Lib.hid hsi12; clear hsi12
            go_wp2_with fail
            refine Hhsi12.out.mono ?_
            rintro e w13 ⟨rfl, hb13⟩
            have hb1013 := hb1012.trans (hb13.mono hb1012.size)
            have hbel13 := hbel12.trans (hb13.mono hbel12.size)
            have hr13 := Below.refl w13.heap.size w13
            go_wp2_with fail
            all_goals first | (exfalso; omega) | skip
            go_loopw [25] (fun iv wr => ∃ k : Nat, k ≤ P.length ∧ iv = .int .i64 (k : Int) ∧ Below w13.heap.size w13 wr) (fun iv _ => P.length - (intOf iv).toNat)
            case atStart => exact ⟨0, by omega, rfl, hr13⟩
            case round =>
              obtain ⟨k, hk, rfl, hbr3⟩ := hrel
              have hb10r := hb1013.trans (hbr3.mono hb1013.size)
              by_cases hkl : k < P.length
              · obtain ⟨ba, oa, rfl, hba, x1', x2', x3', x4'⟩ := (HhP1'.out.below keeps_4 hb10r).p4_at (List.getElem?_eq_getElem hkl)
                obtain ⟨bc, oc, rfl, hbc, y1', y2', y3', y4'⟩ := (HhP2'.out.below keeps_4 hb10r).p4_at (List.getElem?_eq_getElem hkl)
                generalize P[k] = pp at *
                obtain ⟨⟨z1, z2⟩, z3, z4⟩ := pp
                simp only [] at x1' x2' x3' x4' y1' y2' y3' y4'
                have hq := pair_same z1 z2 z3 z4
                have hbr3' := hbr3.drew
                go_wp2_with fail
                refine Go.Canon.wp_region_text mixed (by kernel_rfl) ?_
                go_wp2_with fail
                refine Go.Canon.chk (by rfl) ?_
                go_wp2_with fail
                exact ⟨⟨k + 1, by omega, by simp, hbr3'⟩, by simp [intOf]; omega⟩
              · obtain rfl : k = P.length := by omega
                have hbf := hbel13.trans (hbr3.mono hbel13.size)
                go_wp2_with fail
                go_ret
                exact ⟨rfl, hbf⟩
end Go.Proofs.YtpbdcppaiafbgaaGreat
