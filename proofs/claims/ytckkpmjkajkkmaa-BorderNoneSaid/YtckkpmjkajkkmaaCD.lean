/- Walks: certify.All, certify.Check. -/
import Derived.Test.YtckkpmjkajkkmaaCC
namespace Go.Words
open Go Go.RowKit
theorem own_some {w : World} {base e size n : Nat} {v : Value} {xs : List Value} (h : w.ownsRow base e size v n xs) (hn : 0 < n) : ∃ g cap, v = .slice (some ⟨g, 0, none⟩) n cap ∧ base ≤ g ∧ g < w.heap.size := by
  rcases h.2 with ⟨_, h0⟩ | ⟨g, cap, cur, hv, hb, hg, _⟩
  · omega
  · exact ⟨g, cap, hv, hb, (Array.getElem?_eq_some_iff.1 hg).1⟩
end Go.Words
namespace Go.Mesh
/-- What each kind of witness looks for is not there. -/
def KindOk (n : Nat) (T : List T3) : Nat → Prop
  | 0 => Plain n T
  | 1 => ∀ t ∈ T, Three t
  | 2 => (T.flatMap keys2).Nodup
  | 3 => (T.flatMap fun t => [sort3 t]).Nodup
  | 4 => ∀ u : Nat, u < n → ∃ t ∈ T, HasV t u
  | _ => ∀ u : Nat, u < n → PinchOk T u
def GoodTo (N : Int) (T : List T3) (k : Nat) : Prop := ∃ n : Nat, N = n ∧ ∀ j, j < k → KindOk n T j
theorem goodTo_one {N : Int} {T : List T3} : Plain N T ↔ GoodTo N T 1 := by
  constructor
  · intro h
    refine ⟨N.toNat, by have := h.1; omega, fun j hj => ?_⟩
    have : j = 0 := by omega
    subst this
    show Plain (N.toNat : Int) T
    rwa [Int.toNat_of_nonneg h.1]
  · rintro ⟨n, rfl, h⟩
    exact h 0 (by omega)
theorem goodTo_succ {n k : Nat} {T : List T3} (h : GoodTo (n : Int) T k) : KindOk n T k ↔ GoodTo (n : Int) T (k + 1) := by
  obtain ⟨m, hm, h⟩ := h
  have : m = n := by omega
  subst this
  constructor
  · intro h9
    refine ⟨m, rfl, fun j hj => ?_⟩
    by_cases hjk : j = k
    · subst hjk; exact h9
    · exact h j (by omega)
  · rintro ⟨m', hm', h'⟩
    have : m' = m := by omega
    subst this
    exact h' k (by omega)
def Cert (N : Int) (T : List T3) : Prop := GoodTo N T 6
theorem cert_to {N : Int} {T : List T3} (h : Cert N T) {k : Nat} (hk : k ≤ 6) : GoodTo N T k := by
  obtain ⟨n, e, h⟩ := h
  exact ⟨n, e, fun j hj => h j (by omega)⟩
end Go.Mesh
namespace Go.Proofs.Ytckkpmjkajkkmaa
open Go Go.RowKit Go.Words Go.Mesh Go.Shelf Go.Sort Go.Lib

def kindFs : List Value := [.func (.func 92) #[] #[], .func (.func 93) #[] #[], .func (.func 94) #[] #[], .func (.func 95) #[] #[], .func (.func 96) #[] #[], .func (.func 97) #[] #[]]

set_option maxRecDepth 20000 in
set_option maxHeartbeats 2000000 in
theorem all_calls (v : Value) (N : Int) (T : List T3) (w : World) {B : Nat} (hB0 : B ≤ w.heap.size) (h : Sl 3 RTri w B v T) (hN : I64 N) :
    Calls Try.prog 90 #[.agg #[.int .i64 N, v]] w fun e w' => (∃ v' L, e = .returned v' ∧ w'.ownsRow w.heap.size 61 3 v' L.length (flat3 L) ∧ (L = [] ↔ Cert N T) ∧ (∀ x ∈ L, 1 ≤ x.1) ∧ L.length ≤ 603979776) ∧ RowKit.Below w.heap.size w w' := by
  obtain ⟨A, cap, rfl, hcap⟩ := h.form
  have hbox := (Bk.new w 24 [.int .i64 N, .slice A T.length cap]).alloc (.cells kindFs.toArray 94)
  have hfs := Bk.new' (n := w.heap.size + 1) (w := w.alloc (.cells #[.int .i64 N, .slice A T.length cap] 24)) 94 kindFs (by simp)
  have hb1 := ((RowKit.Below.refl w.heap.size w).alloc (Nat.le_refl _) (.cells #[.int .i64 N, .slice A T.length cap] 24)).alloc (by simp) (.cells kindFs.toArray 94)
  unfold kindFs at *
  have Hh := Lib.hid h; clear h; have Hhbox := Lib.hid hbox; clear hbox; have Hhfs := Lib.hid hfs; clear hfs
  go_enter Try.func90, Try.ntmps90
  go_wp2
  go_loopw [8] (fun i wr => ∃ (k : Nat), k ≤ 6 ∧ i = .int .i64 k ∧ Bk wr w.heap.size 24 [.int .i64 N, .slice A T.length cap] ∧ Bk wr (w.heap.size + 1) 94 kindFs ∧ RowKit.Below w.heap.size w wr ∧ (0 < k → GoodTo N T k))
    (fun i _ => 6 - (intOf i).toNat)
  case atStart => exact ⟨0, by omega, rfl, Hhbox.out, Hhfs.out, hb1, by omega⟩
  case round =>
    obtain ⟨k, hk, rfl, hbox, hfs, hbel, hgood⟩ := hrel
    have hz := hbel.size
    have hz2 := hfs.lt
    have hz2' := hbox.lt
    have c0 : wr.cell? ⟨w.heap.size, 0, none⟩ = some (.int .i64 N) := hbox.cell 0
    have c1 : wr.cell? ⟨w.heap.size, 1, none⟩ = some (.slice A T.length cap) := hbox.cell 1
    have hsl := Hh.out.below keeps_tri (hbel.mono hB0)
    have hB9 := Nat.le_trans hB0 hz
    have fs := hfs.cell
    unfold kindFs at fs
    have hk7 : k = 0 ∨ k = 1 ∨ k = 2 ∨ k = 3 ∨ k = 4 ∨ k = 5 ∨ k = 6 := by omega
    rcases hk7 with rfl | rfl | rfl | rfl | rfl | rfl | rfl
    · have hc := index_calls _ N T wr hB9 hsl hN
      have hgk := @goodTo_one N T
      clear hgood
      have f0 : wr.cell? ⟨w.heap.size + 1, 0, none⟩ = some (.func (.func 92) #[] #[]) := fs 0
      have Hhbox := Lib.hid hbox; clear hbox; have Hhfs := Lib.hid hfs; clear hfs; have Hfs := Lib.hid fs; clear fs; have Hhc := Lib.hid hc; clear hc; have Hhgk := Lib.hid hgk; clear hgk; have Hhsl := Lib.hid hsl; clear hsl
      go_wp2_with fail
      refine Hhc.out.mono ?_
      rintro e w1 ⟨⟨v', rfl, L, o1, o2, o3, o4⟩, hb2⟩
      have oG : L = [] ↔ GoodTo N T 1 := o2.trans Hhgk.out
      clear o2
      have o5 : ∀ x ∈ L, 1 ≤ x.1 := fun x hx => by rw [o3 x hx]; omega
      clear o3
      have hbox1 := Hhbox.out.below hb2 hz2'
      have hfs1 := Hhfs.out.below hb2 hz2
      have hbel1 := below_call hbel hb2 hz
      have hz1 := hbel1.size
      rcases L with _ | ⟨x0, L⟩
      · obtain ⟨A5, cap5, rfl, hcap5⟩ := own_form o1
        simp only [List.length_nil] at *
        have Ho1 := Lib.hid o1; clear o1; have Ho5 := Lib.hid o5; clear o5; have HoG := Lib.hid oG; clear oG; have Hhbox1 := Lib.hid hbox1; clear hbox1; have Hhfs1 := Lib.hid hfs1; clear hfs1
        go_wp2
        exact ⟨⟨1, by omega, by simp, Hhbox1.out, Hhfs1.out, hbel1, fun _ => HoG.out.1 trivial⟩, by simp [intOf]⟩
      · obtain ⟨g5, cap5, rfl, hg5, hg6⟩ := own_some o1 (by simp)
        have hso := sortwit_calls (x0 :: L) g5 cap5 w.heap.size w1 (own_base o1 hz) o4
        have oN : ¬ GoodTo N T 1 := fun h9 => by have := oG.2 h9; cases this
        simp only [List.length_cons] at *
        have Ho1 := Lib.hid o1; clear o1; have Ho5 := Lib.hid o5; clear o5; have HoG := Lib.hid oG; clear oG; have HoN := Lib.hid oN; clear oN; have Hhso := Lib.hid hso; clear hso; have Hhbox1 := Lib.hid hbox1; clear hbox1; have Hhfs1 := Lib.hid hfs1; clear hfs1
        go_wp2_with fail
        refine Hhso.out.mono ?_
        rintro e w2 ⟨rfl, ⟨L', hperm, hlen, ho⟩, hgr⟩
        have hbel2 := hbel1.grown hgr (by omega) (fun q hq => by injection hq with hq; omega)
        have Hho := Lib.hid ho; clear ho; have Hhperm := Lib.hid hperm; clear hperm
        go_wp2
        go_ret
        refine ⟨⟨_, L', rfl, by rw [hlen]; exact Hho.out, ⟨fun h9 => ?_, fun h9 => absurd (cert_to h9 (by omega)) HoN.out⟩, fun x hx => Ho5.out x (Hhperm.out.mem_iff.1 hx), by rw [hlen]; exact o4⟩, hbel2⟩
        rw [h9] at hlen
        simp at hlen
    · obtain ⟨n, rfl, g⟩ := hgood (by omega)
      have hc := loop_calls _ n T wr hB9 hsl (g 0 (by omega)).2.2.1
      have hgk := goodTo_succ (k := 1) ⟨n, rfl, g⟩
      clear g
      have f0 : wr.cell? ⟨w.heap.size + 1, 1, none⟩ = some (.func (.func 93) #[] #[]) := fs 1
      have Hhbox := Lib.hid hbox; clear hbox; have Hhfs := Lib.hid hfs; clear hfs; have Hfs := Lib.hid fs; clear fs; have Hhc := Lib.hid hc; clear hc; have Hhgk := Lib.hid hgk; clear hgk; have Hhsl := Lib.hid hsl; clear hsl
      go_wp2_with fail
      refine Hhc.out.mono ?_
      rintro e w1 ⟨⟨v', rfl, L, o1, o2, o3, o4⟩, hb2⟩
      have oG : L = [] ↔ GoodTo (n : Int) T 2 := o2.trans Hhgk.out
      clear o2
      have o5 : ∀ x ∈ L, 1 ≤ x.1 := fun x hx => by rw [o3 x hx]; omega
      clear o3
      have hbox1 := Hhbox.out.below hb2 hz2'
      have hfs1 := Hhfs.out.below hb2 hz2
      have hbel1 := below_call hbel hb2 hz
      have hz1 := hbel1.size
      rcases L with _ | ⟨x0, L⟩
      · obtain ⟨A5, cap5, rfl, hcap5⟩ := own_form o1
        simp only [List.length_nil] at *
        have Ho1 := Lib.hid o1; clear o1; have Ho5 := Lib.hid o5; clear o5; have HoG := Lib.hid oG; clear oG; have Hhbox1 := Lib.hid hbox1; clear hbox1; have Hhfs1 := Lib.hid hfs1; clear hfs1
        go_wp2
        exact ⟨⟨2, by omega, by simp, Hhbox1.out, Hhfs1.out, hbel1, fun _ => HoG.out.1 trivial⟩, by simp [intOf]⟩
      · obtain ⟨g5, cap5, rfl, hg5, hg6⟩ := own_some o1 (by simp)
        have hso := sortwit_calls (x0 :: L) g5 cap5 w.heap.size w1 (own_base o1 hz) o4
        have oN : ¬ GoodTo (n : Int) T 2 := fun h9 => by have := oG.2 h9; cases this
        simp only [List.length_cons] at *
        have Ho1 := Lib.hid o1; clear o1; have Ho5 := Lib.hid o5; clear o5; have HoG := Lib.hid oG; clear oG; have HoN := Lib.hid oN; clear oN; have Hhso := Lib.hid hso; clear hso; have Hhbox1 := Lib.hid hbox1; clear hbox1; have Hhfs1 := Lib.hid hfs1; clear hfs1
        go_wp2_with fail
        refine Hhso.out.mono ?_
        rintro e w2 ⟨rfl, ⟨L', hperm, hlen, ho⟩, hgr⟩
        have hbel2 := hbel1.grown hgr (by omega) (fun q hq => by injection hq with hq; omega)
        have Hho := Lib.hid ho; clear ho; have Hhperm := Lib.hid hperm; clear hperm
        go_wp2
        go_ret
        refine ⟨⟨_, L', rfl, by rw [hlen]; exact Hho.out, ⟨fun h9 => ?_, fun h9 => absurd (cert_to h9 (by omega)) HoN.out⟩, fun x hx => Ho5.out x (Hhperm.out.mem_iff.1 hx), by rw [hlen]; exact o4⟩, hbel2⟩
        rw [h9] at hlen
        simp at hlen
    · obtain ⟨n, rfl, g⟩ := hgood (by omega)
      have hc := twice_calls _ n T wr hB9 hsl (g 0 (by omega))
      have hgk := goodTo_succ (k := 2) ⟨n, rfl, g⟩
      clear g
      have f0 : wr.cell? ⟨w.heap.size + 1, 2, none⟩ = some (.func (.func 94) #[] #[]) := fs 2
      have Hhbox := Lib.hid hbox; clear hbox; have Hhfs := Lib.hid hfs; clear hfs; have Hfs := Lib.hid fs; clear fs; have Hhc := Lib.hid hc; clear hc; have Hhgk := Lib.hid hgk; clear hgk; have Hhsl := Lib.hid hsl; clear hsl
      go_wp2_with fail
      refine Hhc.out.mono ?_
      rintro e w1 ⟨⟨v', rfl, L, o1, o2, o3, o4⟩, hb2⟩
      have oG : L = [] ↔ GoodTo (n : Int) T 3 := o2.trans Hhgk.out
      clear o2
      have o5 : ∀ x ∈ L, 1 ≤ x.1 := fun x hx => by rw [o3 x hx]; omega
      clear o3
      have hbox1 := Hhbox.out.below hb2 hz2'
      have hfs1 := Hhfs.out.below hb2 hz2
      have hbel1 := below_call hbel hb2 hz
      have hz1 := hbel1.size
      rcases L with _ | ⟨x0, L⟩
      · obtain ⟨A5, cap5, rfl, hcap5⟩ := own_form o1
        simp only [List.length_nil] at *
        have Ho1 := Lib.hid o1; clear o1; have Ho5 := Lib.hid o5; clear o5; have HoG := Lib.hid oG; clear oG; have Hhbox1 := Lib.hid hbox1; clear hbox1; have Hhfs1 := Lib.hid hfs1; clear hfs1
        go_wp2
        exact ⟨⟨3, by omega, by simp, Hhbox1.out, Hhfs1.out, hbel1, fun _ => HoG.out.1 trivial⟩, by simp [intOf]⟩
      · obtain ⟨g5, cap5, rfl, hg5, hg6⟩ := own_some o1 (by simp)
        have hso := sortwit_calls (x0 :: L) g5 cap5 w.heap.size w1 (own_base o1 hz) o4
        have oN : ¬ GoodTo (n : Int) T 3 := fun h9 => by have := oG.2 h9; cases this
        simp only [List.length_cons] at *
        have Ho1 := Lib.hid o1; clear o1; have Ho5 := Lib.hid o5; clear o5; have HoG := Lib.hid oG; clear oG; have HoN := Lib.hid oN; clear oN; have Hhso := Lib.hid hso; clear hso; have Hhbox1 := Lib.hid hbox1; clear hbox1; have Hhfs1 := Lib.hid hfs1; clear hfs1
        go_wp2_with fail
        refine Hhso.out.mono ?_
        rintro e w2 ⟨rfl, ⟨L', hperm, hlen, ho⟩, hgr⟩
        have hbel2 := hbel1.grown hgr (by omega) (fun q hq => by injection hq with hq; omega)
        have Hho := Lib.hid ho; clear ho; have Hhperm := Lib.hid hperm; clear hperm
        go_wp2
        go_ret
        refine ⟨⟨_, L', rfl, by rw [hlen]; exact Hho.out, ⟨fun h9 => ?_, fun h9 => absurd (cert_to h9 (by omega)) HoN.out⟩, fun x hx => Ho5.out x (Hhperm.out.mem_iff.1 hx), by rw [hlen]; exact o4⟩, hbel2⟩
        rw [h9] at hlen
        simp at hlen
    · obtain ⟨n, rfl, g⟩ := hgood (by omega)
      have hc := mirrored_calls _ n T wr hB9 hsl (g 0 (by omega))
      have hgk := goodTo_succ (k := 3) ⟨n, rfl, g⟩
      clear g
      have f0 : wr.cell? ⟨w.heap.size + 1, 3, none⟩ = some (.func (.func 95) #[] #[]) := fs 3
      have Hhbox := Lib.hid hbox; clear hbox; have Hhfs := Lib.hid hfs; clear hfs; have Hfs := Lib.hid fs; clear fs; have Hhc := Lib.hid hc; clear hc; have Hhgk := Lib.hid hgk; clear hgk; have Hhsl := Lib.hid hsl; clear hsl
      go_wp2_with fail
      refine Hhc.out.mono ?_
      rintro e w1 ⟨⟨v', rfl, L, o1, o2, o3, o4⟩, hb2⟩
      have oG : L = [] ↔ GoodTo (n : Int) T 4 := o2.trans Hhgk.out
      clear o2
      have o5 : ∀ x ∈ L, 1 ≤ x.1 := fun x hx => by rw [o3 x hx]; omega
      clear o3
      have hbox1 := Hhbox.out.below hb2 hz2'
      have hfs1 := Hhfs.out.below hb2 hz2
      have hbel1 := below_call hbel hb2 hz
      have hz1 := hbel1.size
      rcases L with _ | ⟨x0, L⟩
      · obtain ⟨A5, cap5, rfl, hcap5⟩ := own_form o1
        simp only [List.length_nil] at *
        have Ho1 := Lib.hid o1; clear o1; have Ho5 := Lib.hid o5; clear o5; have HoG := Lib.hid oG; clear oG; have Hhbox1 := Lib.hid hbox1; clear hbox1; have Hhfs1 := Lib.hid hfs1; clear hfs1
        go_wp2
        exact ⟨⟨4, by omega, by simp, Hhbox1.out, Hhfs1.out, hbel1, fun _ => HoG.out.1 trivial⟩, by simp [intOf]⟩
      · obtain ⟨g5, cap5, rfl, hg5, hg6⟩ := own_some o1 (by simp)
        have hso := sortwit_calls (x0 :: L) g5 cap5 w.heap.size w1 (own_base o1 hz) o4
        have oN : ¬ GoodTo (n : Int) T 4 := fun h9 => by have := oG.2 h9; cases this
        simp only [List.length_cons] at *
        have Ho1 := Lib.hid o1; clear o1; have Ho5 := Lib.hid o5; clear o5; have HoG := Lib.hid oG; clear oG; have HoN := Lib.hid oN; clear oN; have Hhso := Lib.hid hso; clear hso; have Hhbox1 := Lib.hid hbox1; clear hbox1; have Hhfs1 := Lib.hid hfs1; clear hfs1
        go_wp2_with fail
        refine Hhso.out.mono ?_
        rintro e w2 ⟨rfl, ⟨L', hperm, hlen, ho⟩, hgr⟩
        have hbel2 := hbel1.grown hgr (by omega) (fun q hq => by injection hq with hq; omega)
        have Hho := Lib.hid ho; clear ho; have Hhperm := Lib.hid hperm; clear hperm
        go_wp2
        go_ret
        refine ⟨⟨_, L', rfl, by rw [hlen]; exact Hho.out, ⟨fun h9 => ?_, fun h9 => absurd (cert_to h9 (by omega)) HoN.out⟩, fun x hx => Ho5.out x (Hhperm.out.mem_iff.1 hx), by rw [hlen]; exact o4⟩, hbel2⟩
        rw [h9] at hlen
        simp at hlen
    · obtain ⟨n, rfl, g⟩ := hgood (by omega)
      have hc := lonely_calls _ n T wr hB9 hsl (g 0 (by omega))
      have hgk := goodTo_succ (k := 4) ⟨n, rfl, g⟩
      clear g
      have f0 : wr.cell? ⟨w.heap.size + 1, 4, none⟩ = some (.func (.func 96) #[] #[]) := fs 4
      have Hhbox := Lib.hid hbox; clear hbox; have Hhfs := Lib.hid hfs; clear hfs; have Hfs := Lib.hid fs; clear fs; have Hhc := Lib.hid hc; clear hc; have Hhgk := Lib.hid hgk; clear hgk; have Hhsl := Lib.hid hsl; clear hsl
      go_wp2_with fail
      refine Hhc.out.mono ?_
      rintro e w1 ⟨⟨v', rfl, L, o1, o2, o3, o4⟩, hb2⟩
      have oG : L = [] ↔ GoodTo (n : Int) T 5 := o2.trans Hhgk.out
      clear o2
      have o5 : ∀ x ∈ L, 1 ≤ x.1 := fun x hx => by rw [o3 x hx]; omega
      clear o3
      have hbox1 := Hhbox.out.below hb2 hz2'
      have hfs1 := Hhfs.out.below hb2 hz2
      have hbel1 := below_call hbel hb2 hz
      have hz1 := hbel1.size
      rcases L with _ | ⟨x0, L⟩
      · obtain ⟨A5, cap5, rfl, hcap5⟩ := own_form o1
        simp only [List.length_nil] at *
        have Ho1 := Lib.hid o1; clear o1; have Ho5 := Lib.hid o5; clear o5; have HoG := Lib.hid oG; clear oG; have Hhbox1 := Lib.hid hbox1; clear hbox1; have Hhfs1 := Lib.hid hfs1; clear hfs1
        go_wp2
        exact ⟨⟨5, by omega, by simp, Hhbox1.out, Hhfs1.out, hbel1, fun _ => HoG.out.1 trivial⟩, by simp [intOf]⟩
      · obtain ⟨g5, cap5, rfl, hg5, hg6⟩ := own_some o1 (by simp)
        have hso := sortwit_calls (x0 :: L) g5 cap5 w.heap.size w1 (own_base o1 hz) o4
        have oN : ¬ GoodTo (n : Int) T 5 := fun h9 => by have := oG.2 h9; cases this
        simp only [List.length_cons] at *
        have Ho1 := Lib.hid o1; clear o1; have Ho5 := Lib.hid o5; clear o5; have HoG := Lib.hid oG; clear oG; have HoN := Lib.hid oN; clear oN; have Hhso := Lib.hid hso; clear hso; have Hhbox1 := Lib.hid hbox1; clear hbox1; have Hhfs1 := Lib.hid hfs1; clear hfs1
        go_wp2_with fail
        refine Hhso.out.mono ?_
        rintro e w2 ⟨rfl, ⟨L', hperm, hlen, ho⟩, hgr⟩
        have hbel2 := hbel1.grown hgr (by omega) (fun q hq => by injection hq with hq; omega)
        have Hho := Lib.hid ho; clear ho; have Hhperm := Lib.hid hperm; clear hperm
        go_wp2
        go_ret
        refine ⟨⟨_, L', rfl, by rw [hlen]; exact Hho.out, ⟨fun h9 => ?_, fun h9 => absurd (cert_to h9 (by omega)) HoN.out⟩, fun x hx => Ho5.out x (Hhperm.out.mem_iff.1 hx), by rw [hlen]; exact o4⟩, hbel2⟩
        rw [h9] at hlen
        simp at hlen
    · obtain ⟨n, rfl, g⟩ := hgood (by omega)
      have hc := pinch_calls _ n T wr hB9 hsl (g 0 (by omega)) (g 1 (by omega)) (g 4 (by omega))
      have hgk := goodTo_succ (k := 5) ⟨n, rfl, g⟩
      clear g
      have f0 : wr.cell? ⟨w.heap.size + 1, 5, none⟩ = some (.func (.func 97) #[] #[]) := fs 5
      have Hhbox := Lib.hid hbox; clear hbox; have Hhfs := Lib.hid hfs; clear hfs; have Hfs := Lib.hid fs; clear fs; have Hhc := Lib.hid hc; clear hc; have Hhgk := Lib.hid hgk; clear hgk; have Hhsl := Lib.hid hsl; clear hsl
      go_wp2_with fail
      refine Hhc.out.mono ?_
      rintro e w1 ⟨⟨v', rfl, L, o1, o2, o3, o4⟩, hb2⟩
      have oG : L = [] ↔ GoodTo (n : Int) T 6 := o2.trans Hhgk.out
      clear o2
      have o5 : ∀ x ∈ L, 1 ≤ x.1 := fun x hx => by rw [o3 x hx]; omega
      clear o3
      have hbox1 := Hhbox.out.below hb2 hz2'
      have hfs1 := Hhfs.out.below hb2 hz2
      have hbel1 := below_call hbel hb2 hz
      have hz1 := hbel1.size
      rcases L with _ | ⟨x0, L⟩
      · obtain ⟨A5, cap5, rfl, hcap5⟩ := own_form o1
        simp only [List.length_nil] at *
        have Ho1 := Lib.hid o1; clear o1; have Ho5 := Lib.hid o5; clear o5; have HoG := Lib.hid oG; clear oG; have Hhbox1 := Lib.hid hbox1; clear hbox1; have Hhfs1 := Lib.hid hfs1; clear hfs1
        go_wp2
        exact ⟨⟨6, by omega, by simp, Hhbox1.out, Hhfs1.out, hbel1, fun _ => HoG.out.1 trivial⟩, by simp [intOf]⟩
      · obtain ⟨g5, cap5, rfl, hg5, hg6⟩ := own_some o1 (by simp)
        have hso := sortwit_calls (x0 :: L) g5 cap5 w.heap.size w1 (own_base o1 hz) o4
        have oN : ¬ GoodTo (n : Int) T 6 := fun h9 => by have := oG.2 h9; cases this
        simp only [List.length_cons] at *
        have Ho1 := Lib.hid o1; clear o1; have Ho5 := Lib.hid o5; clear o5; have HoG := Lib.hid oG; clear oG; have HoN := Lib.hid oN; clear oN; have Hhso := Lib.hid hso; clear hso; have Hhbox1 := Lib.hid hbox1; clear hbox1; have Hhfs1 := Lib.hid hfs1; clear hfs1
        go_wp2_with fail
        refine Hhso.out.mono ?_
        rintro e w2 ⟨rfl, ⟨L', hperm, hlen, ho⟩, hgr⟩
        have hbel2 := hbel1.grown hgr (by omega) (fun q hq => by injection hq with hq; omega)
        have Hho := Lib.hid ho; clear ho; have Hhperm := Lib.hid hperm; clear hperm
        go_wp2
        go_ret
        refine ⟨⟨_, L', rfl, by rw [hlen]; exact Hho.out, ⟨fun h9 => ?_, fun h9 => absurd (cert_to h9 (by omega)) HoN.out⟩, fun x hx => Ho5.out x (Hhperm.out.mem_iff.1 hx), by rw [hlen]; exact o4⟩, hbel2⟩
        rw [h9] at hlen
        simp at hlen
    · have Hhbox := Lib.hid hbox; clear hbox; have Hhfs := Lib.hid hfs; clear hfs; have Hfs := Lib.hid fs; clear fs; have Hhsl := Lib.hid hsl; clear hsl; have Hhgood := Lib.hid hgood; clear hgood
      go_wp2
      go_ret
      exact ⟨⟨_, [], rfl, World.ownsRow_nil _ _ _ _, ⟨fun _ => Hhgood.out (by omega), fun _ => rfl⟩, by simp, by simp⟩, hbel⟩

theorem flat3_len' (L : List T3) : (flat3 L).length = L.length * 3 := flat3_len L
set_option maxRecDepth 20000 in
set_option maxHeartbeats 2000000 in
theorem check_calls (v : Value) (N : Int) (T : List T3) (w : World) {B : Nat} (hB0 : B ≤ w.heap.size) (h : Sl 3 RTri w B v T) (hN : I64 N) :
    Calls Try.prog 76 #[.agg #[.int .i64 N, v]] w fun e w' => (∃ k a b : Int, e = .returned (.agg #[.int .i64 k, .int .i64 a, .int .i64 b]) ∧ 0 ≤ k ∧ (k = 0 ↔ Cert N T) ∧ (k = 0 → a = 0 ∧ b = 0)) ∧ RowKit.Below w.heap.size w w' := by
  obtain ⟨A, cap, rfl, hcap⟩ := h.form
  have hres := Bk.new' (n := w.heap.size + 1) (w := w.alloc (.cells #[.int .i64 N, .slice A T.length cap] 24)) 61 [.int .i64 0, .int .i64 0, .int .i64 0] (by simp)
  have hb1 := ((RowKit.Below.refl w.heap.size w).alloc (Nat.le_refl _) (.cells #[.int .i64 N, .slice A T.length cap] 24)).alloc (by simp) (.cells #[.int .i64 0, .int .i64 0, .int .i64 0] 61)
  have hc := all_calls _ N T ((w.alloc (.cells #[.int .i64 N, .slice A T.length cap] 24)).alloc (.cells #[.int .i64 0, .int .i64 0, .int .i64 0] 61)) (B := B) (by simp; omega) (h.below keeps_tri (hb1.mono hB0)) hN
  have Hh := Lib.hid h; clear h; have Hhres := Lib.hid hres; clear hres; have Hhc := Lib.hid hc; clear hc
  go_enter Try.func76, Try.ntmps76
  go_wp2_with fail
  refine Hhc.out.mono ?_
  rintro e w1 ⟨⟨v', L, rfl, o1, o2, o3, o4⟩, hb2⟩
  have hz1 := hb2.size
  simp only [World.size_alloc] at hz1
  have hres1 := Hhres.out.below hb2 (by simp)
  have hbel := below_call hb1 hb2 hb1.size
  rcases L with _ | ⟨⟨x1, x2, x3⟩, L⟩
  · obtain ⟨A5, cap5, rfl, hcap5⟩ := own_form o1
    simp only [List.length_nil] at *
    have f1 := hres1.frozen
    have r0 : w1.cell? ⟨w.heap.size + 1, 0, none⟩ = some (.int .i64 0) := hres1.cell 0
    have r1 : w1.cell? ⟨w.heap.size + 1, 1, none⟩ = some (.int .i64 0) := hres1.cell 1
    have r2 : w1.cell? ⟨w.heap.size + 1, 2, none⟩ = some (.int .i64 0) := hres1.cell 2
    have Ho1 := Lib.hid o1; clear o1; have Ho2 := Lib.hid o2; clear o2; have Hhres1 := Lib.hid hres1; clear hres1
    go_wp2
    refine ret_cell rfl rfl (((Hhres1.out.set 0 _).set 1 _).set 2 _) Try.underlying61 rfl (by kernel_rfl) rfl ⟨⟨0, 0, 0, rfl, by omega, ?_, by simp⟩, ((hbel.setCell (by simp) _).setCell (by simp) _).setCell (by simp) _⟩
    exact ⟨fun _ => Ho2.out.1 trivial, fun _ => rfl⟩
  · have hk := o3 (x1, x2, x3) (by simp)
    obtain ⟨g5, cap5, rfl, hg5, hg6⟩ := own_some o1 (by simp)
    have d0 := o1.cellAt 0 (by simp)
    have d1 := o1.cellAt 1 (by simp; omega)
    have d2 := o1.cellAt 2 (by simp; omega)
    have oN : ¬ Cert N T := fun h9 => by have := o2.2 h9; cases this
    simp only [List.length_cons] at *
    have e0 : w1.cell? ⟨g5, 0, none⟩ = some (.int .i64 x1) := d0
    have e1 : w1.cell? ⟨g5, 1, none⟩ = some (.int .i64 x2) := d1
    have e2 : w1.cell? ⟨g5, 2, none⟩ = some (.int .i64 x3) := d2
    clear d0 d1 d2
    have f1 := hres1.frozen
    have r0 : w1.cell? ⟨w.heap.size + 1, 0, none⟩ = some (.int .i64 0) := hres1.cell 0
    have r1 : w1.cell? ⟨w.heap.size + 1, 1, none⟩ = some (.int .i64 0) := hres1.cell 1
    have r2 : w1.cell? ⟨w.heap.size + 1, 2, none⟩ = some (.int .i64 0) := hres1.cell 2
    have Ho1 := Lib.hid o1; clear o1; have Ho2 := Lib.hid o2; clear o2; have Ho3 := Lib.hid o3; clear o3; have HoN := Lib.hid oN; clear oN; have Hhres1 := Lib.hid hres1; clear hres1
    go_wp2
    refine ret_cell rfl rfl (((Hhres1.out.set 0 _).set 1 _).set 2 _) Try.underlying61 rfl (by kernel_rfl) rfl ⟨⟨x1, x2, x3, rfl, by omega, ?_, fun h9 => by omega⟩, ((hbel.setCell (by simp) _).setCell (by simp) _).setCell (by simp) _⟩
    exact ⟨fun h9 => by omega, fun h9 => absurd h9 HoN.out⟩
end Go.Proofs.Ytckkpmjkajkkmaa
