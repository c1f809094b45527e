/- Walks: corner.New. -/
import Derived.Test.YtpbdcppaiafbgaaGreatTA
namespace Go.Words
open Go Go.RowKit
theorem ret_tc {P : Program} {fn : Func} {p q : Tmp} {ty : TypeId} (h : fn.results = #[.tmp p, .cell q ty]) {R : Ending → World → Prop} {a : Act} {w : World} {g : Nat} {t : TypeId} {cs : List Value} {d : TypeDesc}
    (hp : a.tmps.getD q undef = .pointer (some ⟨g, 0, none⟩)) (hg : Bk w g t cs) (hu : P.underlying ty = some d)
    (hd : (match d with | .struct _ | .array _ _ => true | _ => false) = true) (hi : (P.info? ty).map (·.size) = some cs.length) (hde : a.defers = [])
    (hR : R (.returned (.tuple #[a.tmps.getD p undef, .agg cs.toArray])) w) : bodyPost P fn R .ret a w := by
  refine bodyPost_ret ?_ hde hR
  have hp' : a.tmps[q]?.getD undef = .pointer (some ⟨g, 0, none⟩) := by simpa using hp
  simp [results, h, hp', asAddr, run_loadVar_row w g t ty cs.toArray (0, 0) d hg hu hd (by simpa using hi)]
theorem below_undrew {B : Nat} {a w : World} (h : Below B a w) : Below B a.drew w := ⟨h.os, h.tape, h.output, h.size, h.block⟩
theorem wpList_struct {P : Program} {w : World} {ops : Array Oper} {rest : List Oper} {o : Oper} {a : Act} {Q : Exit → Act → World → Prop} (hg : o.guard = none) (t : TypeId) (parts : List (Nat × Operand)) (hop : o.op = Op.build t parts.toArray)
    (vals : List (Nat × Value)) (hv : parts.map (fun p => (p.1, a.eval p.2)) = vals) (v : Value) (hrun : ∀ w, (Instr.build t vals.toArray).run P w = .ok v w) (hK : wpList P ops Q rest (a.put o.dst v) w) : wpList P ops Q (o :: rest) a w := by
  refine wpList_plain hg fun K' hK' => ?_
  have h1 : parts.toArray.map (fun (x : Nat × Operand) => (x.1, a.eval x.2)) = vals.toArray := by rw [← hv]; simp
  unfold Oper.wp
  have h2 : (execOp a.eval o).run P w = .ok (.value v) w := by
    simp only [execOp, hop]
    rw [h1]
    simp [hrun w, Result.andThen]
  rw [h2]
  exact hK' _ _ hK
theorem keep_blk {w0 w : World} {g : Nat} {t : TypeId} {cs cs' : List Value} {t' : TypeId} (h0 : Bk w0 g t cs) (h : Bk w g t' cs') (he : t = t' ∧ cs = cs') : Go.Canon.KeepU (· = g) w0 w := by
  obtain ⟨rfl, rfl⟩ := he
  intro b hb
  subst hb
  exact Eq.trans h (Eq.symm h0)
theorem own_far {w : World} {base e n size g i : Nat} {t : TypeId} {v u : Value} {xs cs : List Value} (h : w.ownsRow base e size v n xs) (hb : Bk w g t cs) (hne : e ≠ t) : (w.setCell ⟨g, i, none⟩ u).ownsRow base e size v n xs := by
  refine h.kept (w' := w.setCell ⟨g, i, none⟩ u) (row := some g) ⟨rfl, rfl, rfl, by simp [World.setCell], fun k _ hk => Below.heap_setCell _ _ _ _ (fun e => hk (by simp [e]))⟩ (.inr fun he => ?_)
  rcases h.2 with ⟨rfl, _⟩ | ⟨g', cap', cur', rfl, _, hh, _⟩
  · simp [Value.ownBlock] at he
  · have : g' = g := by simpa [Value.ownBlock] using he
    subst this
    unfold Bk at hb
    rw [hb] at hh
    injection hh with h2
    injection h2 with _ h3
    exact hne h3.symm
theorem Bk.keep {w w' : World} {g : Nat} {t : TypeId} {cs : List Value} (h : Bk w g t cs) (hb : w'.heap[g]? = w.heap[g]?) : Bk w' g t cs := hb.trans h
end Go.Words
namespace Go.Mesh
def faceFrom (T : List T3) (c : Nat) (e : Int × Int) : Option Nat := leastFrom (fun d => eg T d == e) c (3 * T.length - c)
def cornFrom (T : List T3) (c : Nat) (v : Int) : Option Nat := leastFrom (fun d => vt T d == v) c (3 * T.length - c)
theorem faceFrom_step (T : List T3) {c : Nat} (h : c < 3 * T.length) (e : Int × Int) : faceFrom T c e = if eg T c = e then some c else faceFrom T (c + 1) e := by
  unfold faceFrom
  rw [show 3 * T.length - c = (3 * T.length - (c + 1)) + 1 from by omega, leastFrom]
  by_cases h9 : eg T c = e <;> simp [h9]
theorem cornFrom_step (T : List T3) {c : Nat} (h : c < 3 * T.length) (v : Int) : cornFrom T c v = if vt T c = v then some c else cornFrom T (c + 1) v := by
  unfold cornFrom
  rw [show 3 * T.length - c = (3 * T.length - (c + 1)) + 1 from by omega, leastFrom]
  by_cases h9 : vt T c = v <;> simp [h9]
theorem faceFrom_end (T : List T3) (e : Int × Int) : faceFrom T (3 * T.length) e = none := by unfold faceFrom; rw [Nat.sub_self]; rfl
theorem cornFrom_end (T : List T3) (v : Int) : cornFrom T (3 * T.length) v = none := by unfold cornFrom; rw [Nat.sub_self]; rfl
theorem faceFrom_zero (T : List T3) (e : Int × Int) : faceFrom T 0 e = facing T e := rfl
theorem cornFrom_zero (T : List T3) (v : Int) : cornFrom T 0 v = cornerOf T v := rfl
def FirstAt (T : List T3) (n c : Nat) (F : List Nat) : Prop := F.length = n ∧ ∀ u (h : u < F.length), F[u] = (cornFrom T c u).getD 0
theorem firstAt_start (T : List T3) (n : Nat) : FirstAt T n (3 * T.length) (List.replicate n 0) := ⟨by simp, fun u h => by rw [cornFrom_end]; simp⟩
theorem firstAt_step {T : List T3} {n c u : Nat} {F : List Nat} (hc : c < 3 * T.length) (hu : vt T c = (u : Int)) (h : FirstAt T n (c + 1) F) : FirstAt T n c (F.set u c) := by
  refine ⟨by simp [h.1], fun x hx => ?_⟩
  rw [List.getElem_set, cornFrom_step T hc, hu]
  by_cases he : u = x
  · rw [if_pos he, if_pos (by omega)]; rfl
  · rw [if_neg he, if_neg (by omega)]; exact h.2 x (by simpa using hx)
theorem tEdge_at {T : List T3} {c : Nat} (h : c < 3 * T.length) : tEdge T (c : Int) = eg T c := by
  have h1 : hasC T (c : Int) := ⟨by omega, by omega⟩
  have h2 : hasC T (nx c : Int) := ⟨by omega, by have := nx_lt h; omega⟩
  have h3 : hasC T (pv c : Int) := ⟨by omega, by have := pv_lt h; omega⟩
  unfold tEdge tNext tPrev eg
  rw [if_pos h1, if_pos h1]
  unfold tVert
  simp [h2, h3]
theorem tVert_at {T : List T3} {c : Nat} (h : c < 3 * T.length) : tVert T (c : Int) = vt T c := by
  have h1 : hasC T (c : Int) := ⟨by omega, by omega⟩
  unfold tVert
  rw [if_pos h1]; simp
end Go.Mesh
namespace Go.Proofs.YtpbdcppaiafbgaaGreat
open Go Go.RowKit Go.Words Go.Mesh

theorem build_soup (x : Int) (A : Option Addr) (n c : Nat) (w : World) : (Instr.build 24 #[(0, .int .i64 x), (1, .slice A n c)]).run Tryz.prog w = .ok (.agg #[.int .i64 x, .slice A n c]) w := by kernel_rfl
theorem build_table (x : Int) (A A' : Option Addr) (n c n' c' : Nat) (m : Option Nat) (w : World) : (Instr.build 120 #[(0, .agg #[.int .i64 x, .slice A n c]), (1, .map m), (2, .slice A' n' c')]).run Tryz.prog w = .ok (.agg #[.int .i64 x, .slice A n c, .map m, .slice A' n' c']) w := by kernel_rfl
theorem info_tri : (Tryz.prog.info? 57).map (fun i => (i.zero, i.size, i.bytes)) = some (some (.agg #[.int .i64 0, .int .i64 0, .int .i64 0]), 3, 24) := by kernel_rfl
theorem flat3_get (L : List T3) (j : Nat) (u : Value) (h : (flat3 L)[j]? = some u) : j < 3 * L.length ∧ u = .int .i64 (Mesh.vt L j) := by
  have hj : j < 3 * L.length := by
    have := (List.getElem?_eq_some_iff.1 h).1
    rw [flat3_len] at this; omega
  refine ⟨hj, ?_⟩
  have hq : j / 3 < L.length := by omega
  have h3 := flat3_at L (j / 3) L[j / 3] (List.getElem?_eq_getElem hq)
  have h4 := congrArg (fun l : List Value => l[j % 3]?) h3
  rw [List.getElem?_take, if_pos (by omega), List.getElem?_drop, show j / 3 * 3 + j % 3 = j from by omega, h] at h4
  have e : L.getD (j / 3) (0, 0, 0) = L[j / 3] := by rw [List.getD_eq_getElem?_getD, List.getElem?_eq_getElem hq]; rfl
  unfold Mesh.vt
  rw [e]
  rcases mod3 j with hm | hm | hm <;> rw [hm] at h4 ⊢ <;> (simp at h4; exact h4)
theorem flat3_cells (L : List T3) : ∀ u ∈ flat3 L, u.oneCell' = true := by
  intro u hu
  obtain ⟨j, hj, rfl⟩ := List.getElem_of_mem hu
  obtain ⟨_, h⟩ := flat3_get L j _ (List.getElem?_eq_getElem hj)
  rw [h]; rfl
set_option maxRecDepth 20000 in
theorem clone_calls {w : World} {B : Nat} {v : Value} {T : List T3} (h : Sl 3 RTri w B v T) (hT : T.length ≤ 8192) :
    Calls Tryz.prog 76 #[v] w fun e w' => (∃ v', e = .returned v' ∧ w'.ownsRow w.heap.size 57 3 v' T.length (flat3 T)) ∧ RowKit.Below w.heap.size w w' := by
  obtain ⟨A, cap, rfl, hcap⟩ := h.form
  cases A with
  | none =>
    have hT0 : T = [] := by
      cases T with
      | nil => rfl
      | cons t T =>
        obtain ⟨b, o, h1, _⟩ := h.tri_at (k := 0) (by simp)
        cases h1
    subst hT0
    have := AnyE.slices_Clone_nil Tryz.cloneTri 0 cap w
    change Calls Tryz.prog 76 _ _ _ at this
    refine this.mono ?_
    rintro e w' ⟨rfl, rfl⟩
    exact ⟨⟨_, rfl, World.ownsRow_nil _ _ _ _⟩, RowKit.Below.refl _ _⟩
  | some ad =>
    obtain ⟨i0, hi, hz0, hz1, hz2⟩ := info_parts info_tri
    have key : ∀ b o, ad = ⟨b, o, none⟩ → ∀ j u, (flat3 T)[j]? = some u → w.cell? ⟨b, o + j, none⟩ = some u := by
      intro b o he j u hu
      obtain ⟨hj, rfl⟩ := flat3_get T j u hu
      obtain ⟨b', o', h1, _, h2⟩ := tri_cell h hj
      rw [he] at h1
      injection h1 with h1
      injection h1 with h1 h1'
      subst h1; subst h1'
      rw [← h2]
      congr 2
      omega
    by_cases hT0 : T = []
    · subst hT0
      have q22 : ∀ (w : World) (a : Option Addr) (n c n' c' : Nat), (binOp .eql 22 (.slice a n c) (.slice none n' c')).run Tryz.prog w = .ok (.bool a.isNone) w := fun w a n c n' c' => Lib.run_eql_slice_nil w _ _ a n c n' c' Tryz.underlying22
      go_enter Tryz.func76, Tryz.ntmps76
      go_wp2_with (at_builtin; refine wpList_append_own _ rfl _ _ 22 rfl w.heap.size 57 i0 _ 3 24 Tryz.underlying22 hi hz0 hz1 hz2 rfl (by omega) _ _ _ rfl (World.ownsRow_made w #[] 0 (Nat.le_refl _) (Nat.zero_le _) (by simp)) ad 0 cap [] rfl ?qc1 ?qc2 ?qc3 ?qc4 ?qc5 ?qc6 ?_)
      case qc1 => rfl
      case qc2 => intro j u hj; cases hj
      case qc3 => intro u hu; cases hu
      case qc4 => unfold maxLen; omega
      case qc5 => omega
      case qc6 => simp
      intro v' w1 hown hgrow hnil
      go_wp2
      go_ret
      exact ⟨⟨v', rfl, by simpa [flat3] using hown⟩, ((RowKit.Below.refl _ w).alloc (Nat.le_refl _) _).grown hgrow (by simp) (by intro k hk; simp [Value.ownBlock] at hk; omega)⟩
    · obtain ⟨b, o, h1, _⟩ := h.tri_at (k := 0) (by cases T with | nil => exact absurd rfl hT0 | cons t T => simp)
      injection h1 with h1
      subst h1
      have := AnyE.slices_Clone Tryz.cloneTri i0 _ 3 24 hi hz0 hz1 hz2 rfl (by omega) Tryz.sizeOf57 b o T.length cap (flat3 T) w (flat3_len T) (by unfold maxLen; omega) (by omega) (key b o rfl) (flat3_cells T)
      change Calls Tryz.prog 76 _ _ _ at this
      refine this.mono ?_
      rintro e w' ⟨v', rfl, ho, _, hb⟩
      exact ⟨⟨v', rfl, ho⟩, hb⟩

def Tab (w : World) (B : Nat) (v : Value) (N : Int) (T : List T3) : Prop := ∃ g vt gm vf m F, v = .pointer (some ⟨g, 0, none⟩) ∧ TabAt w B g N T vt gm vf ∧ Mp enc2 ok2 Words.encI w gm m ∧ gm < B ∧ (∀ e, ok2 e → Words.look m e = facing T e) ∧
  Sl 1 RInt w B vf (F.map fun n : Nat => (n : Int)) ∧ FirstAt T N.toNat 0 F
theorem Tab.below {w w' : World} {B B' : Nat} {v : Value} {N : Int} {T : List T3} (h : Tab w B v N T) (hb : RowKit.Below B' w w') (hB : B ≤ B') : Tab w' B v N T := by
  obtain ⟨g, vt, gm, vf, m, F, h1, h2, h3, h4, h5, h6, h7⟩ := h
  exact ⟨g, vt, gm, vf, m, F, h1, h2.below hb hB, h3.below hb (by omega), h4, h5, h6.below keeps_int (hb.mono hB), h7⟩
theorem Tab.le {w : World} {B : Nat} {v : Value} {N : Int} {T : List T3} (h : Tab w B v N T) : B ≤ w.heap.size := by
  obtain ⟨g, vt, gm, vf, m, F, h1, h2, h3⟩ := h
  exact h2.le
theorem eg_ok {T : List T3} {N : Int} (hs : Surf N T) {c : Nat} (hc : c < 3 * T.length) : ok2 (eg T c) := by
  have h1 := hs.rng _ (nx_lt hc)
  have h2 := hs.rng _ (pv_lt hc)
  have := hs.nmax
  unfold ok2 eg I64
  simp only
  omega

def fvals (F : List Nat) : List Value := F.map Words.encI
theorem fvals_set (F : List Nat) (i c : Nat) : (fvals F).set i (.int .i64 c) = fvals (F.set i c) := by unfold fvals; rw [List.map_set]; rfl
theorem fvals_len (F : List Nat) : (fvals F).length = F.length := by unfold fvals; simp

set_option maxRecDepth 40000 in
set_option maxHeartbeats 4000000 in
theorem new_calls (v : Value) (N : Int) (T : List T3) (w : World) {B : Nat} (hB0 : B ≤ w.heap.size) (h : Sl 3 RTri w B v T) (hN : I64 N) :
    Calls Tryz.prog 25 #[.agg #[.int .i64 N, v]] w fun e w' => (∃ (pv : Value) (a b c : Int), e = .returned (.tuple #[pv, .agg #[.int .i64 a, .int .i64 b, .int .i64 c]]) ∧ ((Surf N T ∧ Tab w' w'.heap.size pv N T) ∨ (¬ Surf N T ∧ pv = .pointer none))) ∧ RowKit.Below w.heap.size w w' := by
  obtain ⟨A, cap, rfl, hcap⟩ := h.form
  have hbox := (Bk.new w 24 [.int .i64 N, .slice A T.length cap]).alloc (.cells #[.int .i64 0, .int .i64 0, .int .i64 0] 48)
  have hres := Bk.new' (n := w.heap.size + 1) (w := w.alloc (.cells #[.int .i64 N, .slice A T.length cap] 24)) 48 [.int .i64 0, .int .i64 0, .int .i64 0] (by simp)
  have hb1 := ((RowKit.Below.refl w.heap.size w).alloc (Nat.le_refl _) (.cells #[.int .i64 N, .slice A T.length cap] 24)).alloc (by simp) (.cells #[.int .i64 0, .int .i64 0, .int .i64 0] 48)
  have hc := check_calls _ N T ((w.alloc (.cells #[.int .i64 N, .slice A T.length cap] 24)).alloc (.cells #[.int .i64 0, .int .i64 0, .int .i64 0] 48)) (B := B) (by simp; omega) (h.below keeps_tri (hb1.mono hB0)) hN
  have Hh := Lib.hid h; clear h; have Hhbox := Lib.hid hbox; clear hbox; have Hhres := Lib.hid hres; clear hres; have Hhc := Lib.hid hc; clear hc
  go_enter Tryz.func25, Tryz.ntmps25
  go_wp2_with fail
  refine Hhc.out.mono ?_
  rintro e w1 ⟨⟨k, x, y, rfl, hk0, hk, hxy⟩, hb2⟩
  have hz1 := hb2.size
  simp only [World.size_alloc] at hz1
  have hbel := below_call hb1 hb2 hb1.size
  have hbox1 := Hhbox.out.below hb2 (by simp; omega)
  have hres1 := Hhres.out.below hb2 (by simp)
  have hk : k = 0 ↔ Surf N T := hk.trans cert_iff
  obtain ⟨gw, hgw⟩ : ∃ gw : Nat, gw = w1.heap.size := ⟨_, rfl⟩
  have hwit := Bk.new' (n := gw) (w := w1) 48 [.int .i64 k, .int .i64 x, .int .i64 y] hgw
  clear hb1
  have Hhk := Lib.hid hk; clear hk; have Hhbox1 := Lib.hid hbox1; clear hbox1; have Hhres1 := Lib.hid hres1; clear hres1; have Hhwit := Lib.hid hwit; clear hwit
  by_cases hk1 : k = 0
  case neg =>
    have hnot : ¬ Surf N T := fun h9 => hk1 (Hhk.out.2 h9)
    go_wp2
    have hresA := Hhres1.out.alloc (.cells #[.int .i64 k, .int .i64 x, .int .i64 y] 48)
    have hw0 := Hhwit.out
    subst hgw
    have e0 : (w1.alloc (.cells #[.int .i64 k, .int .i64 x, .int .i64 y] 48)).cell? ⟨w1.heap.size, 0, none⟩ = some (.int .i64 k) := hw0.cell 0
    have e1 : (w1.alloc (.cells #[.int .i64 k, .int .i64 x, .int .i64 y] 48)).cell? ⟨w1.heap.size, 1, none⟩ = some (.int .i64 x) := hw0.cell 1
    have e2 : (w1.alloc (.cells #[.int .i64 k, .int .i64 x, .int .i64 y] 48)).cell? ⟨w1.heap.size, 2, none⟩ = some (.int .i64 y) := hw0.cell 2
    have hbA := hbel.alloc hbel.size (.cells #[.int .i64 k, .int .i64 x, .int .i64 y] 48)
    obtain ⟨wo, hwo⟩ : ∃ wo : World, wo = w1.alloc (.cells #[.int .i64 k, .int .i64 x, .int .i64 y] 48) := ⟨_, rfl⟩
    rw [← hwo] at hbA hresA e0 e1 e2 ⊢
    clear hwo hw0
    have f1 := hresA.frozen
    have r0 : wo.cell? ⟨w.heap.size + 1, 0, none⟩ = some (.int .i64 0) := hresA.cell 0
    have r1 : wo.cell? ⟨w.heap.size + 1, 1, none⟩ = some (.int .i64 0) := hresA.cell 1
    have r2 : wo.cell? ⟨w.heap.size + 1, 2, none⟩ = some (.int .i64 0) := hresA.cell 2
    have HhresA := Lib.hid hresA; clear hresA
    go_wp2_with (first | (refine Go.Canon.wp_region_text mixed (by kernel_rfl) ?_) | (refine Go.Canon.chk (by rfl) ?_))
    refine ret_tc rfl rfl (((HhresA.out.set 0 _).set 1 _).set 2 _).drew Tryz.underlying48 rfl (by kernel_rfl) rfl ⟨⟨_, _, _, _, rfl, .inr ⟨hnot, rfl⟩⟩, (((hbA.setCell (by simp) _).setCell (by simp) _).setCell (by simp) _).drew⟩
  case pos =>
    go_wp2
    subst hk1
    have hs : Surf N T := Hhk.out.1 rfl
    obtain ⟨n, rfl⟩ : ∃ n : Nat, N = n := ⟨N.toNat, by have := hs.n0; omega⟩
    have hT := hs.tmax
    have hn : n ≤ 4096 := by have := hs.nmax; omega
    obtain ⟨rfl, rfl⟩ := hxy rfl
    have hresA := Hhres1.out.alloc (.cells #[.int .i64 0, .int .i64 0, .int .i64 0] 48)
    have hboxA := Hhbox1.out.alloc (.cells #[.int .i64 0, .int .i64 0, .int .i64 0] 48)
    have hbA := hbel.alloc hbel.size (.cells #[.int .i64 0, .int .i64 0, .int .i64 0] 48)
    have Hhs := Lib.hid hs; clear hs; have HhresA := Lib.hid hresA; clear hresA; have HhboxA := Lib.hid hboxA; clear hboxA
    obtain ⟨wo, hwo⟩ : ∃ wo : World, wo = w1.alloc (.cells #[.int .i64 0, .int .i64 0, .int .i64 0] 48) := ⟨_, rfl⟩
    have hzo : w.heap.size + 3 ≤ wo.heap.size := by rw [hwo]; simp; omega
    rw [← hwo] at hbA HhresA HhboxA ⊢
    clear hwo
    have hcl : ∀ X : World, RowKit.Below wo.heap.size wo X → Calls Tryz.prog 76 #[.slice A T.length cap] X fun e w' => (∃ v', e = .returned v' ∧ w'.ownsRow X.heap.size 57 3 v' T.length (flat3 T)) ∧ RowKit.Below X.heap.size X w' :=
      fun X hX => clone_calls (Hh.out.below keeps_tri ((hbA.mono hB0).trans (hX.mono (by omega)))) hT
    have hmm := @run_makeMap Tryz.prog
    have hm1 := run_make_rep (P := Tryz.prog) 28 Tryz.underlying28 info_int rfl n (by omega) (by omega)
    have b0 : wo.cell? ⟨w.heap.size, 0, none⟩ = some (.int .i64 n) := HhboxA.out.cell 0
    have b1 : wo.cell? ⟨w.heap.size, 1, none⟩ = some (.slice A T.length cap) := HhboxA.out.cell 1
    have Hhcl := Lib.hid hcl; clear hcl
    refine Go.Canon.wp_region_tree [1,3,8] (· < wo.heap.size) (.seg [0,1,2,3,7,8] (.alt 4 (.seg [5] (.alt 6 (.alt 9 (.seg [10] (.alt 11 (.seg [12] .fin) .no)) .no) (.alt 9 (.alt 6 (.seg [10] (.alt 11 (.seg [12] .fin) .no)) .no) .no))) (.alt 6 (.alt 4 (.seg [5] (.alt 9 (.seg [10] (.alt 11 (.seg [12] .fin) .no)) .no)) (.alt 9 (.alt 4 (.seg [5,10] (.alt 11 (.seg [12] .fin) .no)) .no) .no)) (.alt 9 (.alt 4 (.seg [5] (.alt 6 (.seg [10] (.alt 11 (.seg [12] .fin) .no)) .no)) (.alt 6 (.alt 4 (.seg [5,10] (.alt 11 (.seg [12] .fin) .no)) .no) .no)) .no)))) mixed (by kernel_rfl) ?_
    refine Go.Canon.tr_seg ?_
    simp only [List.map_cons, List.map_nil, List.getD_cons_zero, List.getD_cons_succ]
    go_wp2_with fail
    refine Go.Canon.tr_to (Go.Canon.tr_alt ?c4 (Go.Canon.tr_alt ?c6 (Go.Canon.tr_alt ?c9 Go.Canon.tr_no)))
    case' c4 =>
      simp only [List.getD_cons_zero, List.getD_cons_succ]
      go_wp2_with fail
      refine (Hhcl.out (wo.drew) (by repeat (first | exact Below.refl _ _ | assumption | refine Below.drew ?_ | refine Below.setCell ?_ (by first | omega | (simp <;> omega)) _ | refine Below.alloc ?_ (by first | omega | (simp <;> omega)) _ | refine below_drewN ?_ _))).mono ?_
      rintro e w2 ⟨⟨vt, rfl, ho⟩, hb3⟩
      obtain ⟨A5, cap5, rfl, hcap5⟩ := own_form ho
      have hz2 := hb3.size
      have hK : Below wo.heap.size wo w2 := below_call (B := wo.heap.size) (show Below wo.heap.size wo (wo.drew) from (by repeat (first | exact Below.refl _ _ | assumption | refine Below.drew ?_ | refine Below.setCell ?_ (by first | omega | (simp <;> omega)) _ | refine Below.alloc ?_ (by first | omega | (simp <;> omega)) _ | refine below_drewN ?_ _))) hb3 (by first | exact Nat.le_refl _ | (simp <;> omega))
      have hzK := hK.size
      go_wp2_with fail
      -- behind 4
      refine Go.Canon.tr_end (keep_below (below_undrew (by repeat (first | exact Below.refl _ _ | assumption | refine Below.drew ?_ | refine Below.setCell ?_ (by first | omega | (simp <;> omega)) _ | refine Below.alloc ?_ (by first | omega | (simp <;> omega)) _ | refine below_drewN ?_ _)))) (Go.Canon.tr_seg ?_)
      simp only [List.map_cons, List.map_nil, List.getD_cons_zero, List.getD_cons_succ]
      refine wpList_struct rfl 24 [(0, .tmp 14), (1, .tmp 17)] rfl [(0, .int .i64 n), (1, .slice A5 T.length cap5)] rfl (.agg #[.int .i64 n, .slice A5 T.length cap5]) (build_soup _ _ _ _) ?_
      go_wp2_with fail
      refine Go.Canon.tr_to (Go.Canon.tr_alt ?d41 (Go.Canon.tr_alt ?d42 Go.Canon.tr_no))
      case' d41 =>
        simp only [List.getD_cons_zero, List.getD_cons_succ]
        go_wp2_with fail
        -- behind 6
        refine Go.Canon.tr_end (keep_below (below_undrew (by repeat (first | exact Below.refl _ _ | assumption | refine Below.drew ?_ | refine Below.setCell ?_ (by first | omega | (simp <;> omega)) _ | refine Below.alloc ?_ (by first | omega | (simp <;> omega)) _ | refine below_drewN ?_ _)))) (Go.Canon.tr_one ?_)
        simp only [List.getD_cons_zero, List.getD_cons_succ]
        go_wp2_with fail
        -- behind 9
        refine Go.Canon.tr_end (keep_below (below_undrew (by repeat (first | exact Below.refl _ _ | assumption | refine Below.drew ?_ | refine Below.setCell ?_ (by first | omega | (simp <;> omega)) _ | refine Below.alloc ?_ (by first | omega | (simp <;> omega)) _ | refine below_drewN ?_ _)))) (Go.Canon.tr_seg ?_)
        simp only [List.map_cons, List.map_nil, List.getD_cons_zero, List.getD_cons_succ]
        refine wpList_struct rfl 120 [(0, .tmp 18), (1, .tmp 19), (2, .tmp 22)] rfl [(0, .agg #[.int .i64 n, .slice A5 T.length cap5]), (1, .map (some (w2.heap.size))), (2, .slice (some ⟨w2.heap.size + 1, 0, none⟩) n n)] rfl (.agg #[.int .i64 n, .slice A5 T.length cap5, .map (some (w2.heap.size)), .slice (some ⟨w2.heap.size + 1, 0, none⟩) n n]) (build_table _ _ _ _ _ _ _ _) ?_
        go_wp2_with fail
        refine Go.Canon.tr_to (Go.Canon.tr_one ?_)
        simp only [List.getD_cons_zero, List.getD_cons_succ]
        go_wp2_with fail
        refine Go.Canon.tr_end (keep_below (below_undrew (by repeat (first | exact Below.refl _ _ | assumption | refine Below.drew ?_ | refine Below.setCell ?_ (by first | omega | (simp <;> omega)) _ | refine Below.alloc ?_ (by first | omega | (simp <;> omega)) _ | refine below_drewN ?_ _)))) (Go.Canon.tr_seg ?_)
        simp only [List.map_cons, List.map_nil, List.getD_cons_zero, List.getD_cons_succ]
        go_wp2_with fail
        have oF : World.ownsRow (((w2).alloc (.map #[] 0)).alloc (.cells (Array.replicate n (.int .i64 0)) 3)) w.heap.size 57 3 (.slice A5 T.length cap5) T.length (flat3 T) := (((own_base (base' := w.heap.size) ho (by first | omega | (simp <;> omega)))).alloc (.map #[] 0)).alloc (.cells (Array.replicate n (.int .i64 0)) 3)
        have mF : Mp enc2 ok2 Words.encI (((w2).alloc (.map #[] 0)).alloc (.cells (Array.replicate n (.int .i64 0)) 3)) (w2.heap.size) ([] : List ((Int × Int) × Nat)) := ((Mp.new' (enc := enc2) (ok := ok2) (ev := Words.encI) (κ := Int × Int) (n := w2.heap.size) (w := w2) (by simp))).alloc (.cells (Array.replicate n (.int .i64 0)) 3)
        have fF : Bk (((w2).alloc (.map #[] 0)).alloc (.cells (Array.replicate n (.int .i64 0)) 3)) (w2.heap.size + 1) 3 (List.replicate n (.int .i64 0)) := (Bk.new' (n := w2.heap.size + 1) (w := (w2).alloc (.map #[] 0)) 3 (List.replicate n (.int .i64 0)) (by simp))
        have kF : Below wo.heap.size wo (((w2).alloc (.map #[] 0)).alloc (.cells (Array.replicate n (.int .i64 0)) 3)) := (by repeat (first | exact Below.refl _ _ | assumption | refine Below.drew ?_ | refine Below.setCell ?_ (by first | omega | (simp <;> omega)) _ | refine Below.alloc ?_ (by first | omega | (simp <;> omega)) _ | refine below_drewN ?_ _))
        obtain ⟨gt, hgt9⟩ : ∃ gt : Nat, gt = w2.heap.size + 1 + 1 := ⟨_, rfl⟩
        have qT : gt = (((w2).alloc (.map #[] 0)).alloc (.cells (Array.replicate n (.int .i64 0)) 3)).heap.size := by first | exact hgt9 | (rw [hgt9]; simp)
        rw [← hgt9]
        clear hgt9
        obtain ⟨wl, hwl⟩ : ∃ wl : World, wl = ((w2).alloc (.map #[] 0)).alloc (.cells (Array.replicate n (.int .i64 0)) 3) := ⟨_, rfl⟩
        rw [← hwl] at oF mF fF kF qT
        rw [← hwl]
        have qF : w.heap.size + 2 ≤ w2.heap.size ∧ w.heap.size + 2 ≤ w2.heap.size + 1 := by omega
        refine Go.Canon.tr_to (Go.Canon.tr_fin (by rfl) (List.forall_mem_cons.2 ⟨.inl ⟨_, rfl, (by show w.heap.size < wo.heap.size; omega), by rw [World.cell?_drew, b0]; rfl⟩, List.forall_mem_cons.2 ⟨.inl ⟨_, rfl, (by show w.heap.size < wo.heap.size; omega), by rw [World.cell?_drew, b1]; rfl⟩, List.forall_mem_cons.2 ⟨.inl ⟨_, rfl, (by show w.heap.size < wo.heap.size; omega), by rw [World.cell?_drew, b0]; rfl⟩, fun _ h => by cases h⟩⟩⟩) ?_)
        obtain ⟨gf, hgf⟩ : ∃ gf : Nat, gf = w2.heap.size + 1 := ⟨_, rfl⟩
        rw [← hgf] at fF qF ⊢
        clear hgf
        obtain ⟨gm, hgm⟩ : ∃ gm : Nat, gm = w2.heap.size := ⟨_, rfl⟩
        rw [← hgm] at mF qF ⊢
        clear hgm
      case' d42 =>
        simp only [List.getD_cons_zero, List.getD_cons_succ]
        go_wp2_with fail
        -- behind 9
        refine Go.Canon.tr_end (keep_below (below_undrew (by repeat (first | exact Below.refl _ _ | assumption | refine Below.drew ?_ | refine Below.setCell ?_ (by first | omega | (simp <;> omega)) _ | refine Below.alloc ?_ (by first | omega | (simp <;> omega)) _ | refine below_drewN ?_ _)))) (Go.Canon.tr_one ?_)
        simp only [List.getD_cons_zero, List.getD_cons_succ]
        go_wp2_with fail
        -- behind 6
        refine Go.Canon.tr_end (keep_below (below_undrew (by repeat (first | exact Below.refl _ _ | assumption | refine Below.drew ?_ | refine Below.setCell ?_ (by first | omega | (simp <;> omega)) _ | refine Below.alloc ?_ (by first | omega | (simp <;> omega)) _ | refine below_drewN ?_ _)))) (Go.Canon.tr_seg ?_)
        simp only [List.map_cons, List.map_nil, List.getD_cons_zero, List.getD_cons_succ]
        refine wpList_struct rfl 120 [(0, .tmp 18), (1, .tmp 19), (2, .tmp 22)] rfl [(0, .agg #[.int .i64 n, .slice A5 T.length cap5]), (1, .map (some (w2.heap.size + 1))), (2, .slice (some ⟨w2.heap.size, 0, none⟩) n n)] rfl (.agg #[.int .i64 n, .slice A5 T.length cap5, .map (some (w2.heap.size + 1)), .slice (some ⟨w2.heap.size, 0, none⟩) n n]) (build_table _ _ _ _ _ _ _ _) ?_
        go_wp2_with fail
        refine Go.Canon.tr_to (Go.Canon.tr_one ?_)
        simp only [List.getD_cons_zero, List.getD_cons_succ]
        go_wp2_with fail
        refine Go.Canon.tr_end (keep_below (below_undrew (by repeat (first | exact Below.refl _ _ | assumption | refine Below.drew ?_ | refine Below.setCell ?_ (by first | omega | (simp <;> omega)) _ | refine Below.alloc ?_ (by first | omega | (simp <;> omega)) _ | refine below_drewN ?_ _)))) (Go.Canon.tr_seg ?_)
        simp only [List.map_cons, List.map_nil, List.getD_cons_zero, List.getD_cons_succ]
        go_wp2_with fail
        have oF : World.ownsRow (((w2).alloc (.cells (Array.replicate n (.int .i64 0)) 3)).alloc (.map #[] 0)) w.heap.size 57 3 (.slice A5 T.length cap5) T.length (flat3 T) := (((own_base (base' := w.heap.size) ho (by first | omega | (simp <;> omega)))).alloc (.cells (Array.replicate n (.int .i64 0)) 3)).alloc (.map #[] 0)
        have mF : Mp enc2 ok2 Words.encI (((w2).alloc (.cells (Array.replicate n (.int .i64 0)) 3)).alloc (.map #[] 0)) (w2.heap.size + 1) ([] : List ((Int × Int) × Nat)) := (Mp.new' (enc := enc2) (ok := ok2) (ev := Words.encI) (κ := Int × Int) (n := w2.heap.size + 1) (w := (w2).alloc (.cells (Array.replicate n (.int .i64 0)) 3)) (by simp))
        have fF : Bk (((w2).alloc (.cells (Array.replicate n (.int .i64 0)) 3)).alloc (.map #[] 0)) (w2.heap.size) 3 (List.replicate n (.int .i64 0)) := ((Bk.new' (n := w2.heap.size) (w := w2) 3 (List.replicate n (.int .i64 0)) (by simp))).alloc (.map #[] 0)
        have kF : Below wo.heap.size wo (((w2).alloc (.cells (Array.replicate n (.int .i64 0)) 3)).alloc (.map #[] 0)) := (by repeat (first | exact Below.refl _ _ | assumption | refine Below.drew ?_ | refine Below.setCell ?_ (by first | omega | (simp <;> omega)) _ | refine Below.alloc ?_ (by first | omega | (simp <;> omega)) _ | refine below_drewN ?_ _))
        obtain ⟨gt, hgt9⟩ : ∃ gt : Nat, gt = w2.heap.size + 1 + 1 := ⟨_, rfl⟩
        have qT : gt = (((w2).alloc (.cells (Array.replicate n (.int .i64 0)) 3)).alloc (.map #[] 0)).heap.size := by first | exact hgt9 | (rw [hgt9]; simp)
        rw [← hgt9]
        clear hgt9
        obtain ⟨wl, hwl⟩ : ∃ wl : World, wl = ((w2).alloc (.cells (Array.replicate n (.int .i64 0)) 3)).alloc (.map #[] 0) := ⟨_, rfl⟩
        rw [← hwl] at oF mF fF kF qT
        rw [← hwl]
        have qF : w.heap.size + 2 ≤ w2.heap.size + 1 ∧ w.heap.size + 2 ≤ w2.heap.size := by omega
        refine Go.Canon.tr_to (Go.Canon.tr_fin (by rfl) (List.forall_mem_cons.2 ⟨.inl ⟨_, rfl, (by show w.heap.size < wo.heap.size; omega), by rw [World.cell?_drew, b0]; rfl⟩, List.forall_mem_cons.2 ⟨.inl ⟨_, rfl, (by show w.heap.size < wo.heap.size; omega), by rw [World.cell?_drew, b1]; rfl⟩, List.forall_mem_cons.2 ⟨.inl ⟨_, rfl, (by show w.heap.size < wo.heap.size; omega), by rw [World.cell?_drew, b0]; rfl⟩, fun _ h => by cases h⟩⟩⟩) ?_)
        obtain ⟨gm, hgm⟩ : ∃ gm : Nat, gm = w2.heap.size + 1 := ⟨_, rfl⟩
        rw [← hgm] at mF qF ⊢
        clear hgm
        obtain ⟨gf, hgf⟩ : ∃ gf : Nat, gf = w2.heap.size := ⟨_, rfl⟩
        rw [← hgf] at fF qF ⊢
        clear hgf
    case' c6 =>
      simp only [List.getD_cons_zero, List.getD_cons_succ]
      go_wp2_with fail
      -- behind 6
      refine Go.Canon.tr_end (keep_below (below_undrew (by repeat (first | exact Below.refl _ _ | assumption | refine Below.drew ?_ | refine Below.setCell ?_ (by first | omega | (simp <;> omega)) _ | refine Below.alloc ?_ (by first | omega | (simp <;> omega)) _ | refine below_drewN ?_ _)))) (Go.Canon.tr_alt ?d61 (Go.Canon.tr_alt ?d62 Go.Canon.tr_no))
      case' d61 =>
        simp only [List.getD_cons_zero, List.getD_cons_succ]
        go_wp2_with fail
        refine (Hhcl.out ((wo.drew).alloc (.map #[] 0)) (by repeat (first | exact Below.refl _ _ | assumption | refine Below.drew ?_ | refine Below.setCell ?_ (by first | omega | (simp <;> omega)) _ | refine Below.alloc ?_ (by first | omega | (simp <;> omega)) _ | refine below_drewN ?_ _))).mono ?_
        rintro e w2 ⟨⟨vt, rfl, ho⟩, hb3⟩
        obtain ⟨A5, cap5, rfl, hcap5⟩ := own_form ho
        have hz2 := hb3.size
        have hK : Below wo.heap.size wo w2 := below_call (B := wo.heap.size) (show Below wo.heap.size wo ((wo.drew).alloc (.map #[] 0)) from (by repeat (first | exact Below.refl _ _ | assumption | refine Below.drew ?_ | refine Below.setCell ?_ (by first | omega | (simp <;> omega)) _ | refine Below.alloc ?_ (by first | omega | (simp <;> omega)) _ | refine below_drewN ?_ _))) hb3 (by first | exact Nat.le_refl _ | (simp <;> omega))
        have hzK := hK.size
        go_wp2_with fail
        -- behind 4
        refine Go.Canon.tr_end (keep_below (below_undrew (by repeat (first | exact Below.refl _ _ | assumption | refine Below.drew ?_ | refine Below.setCell ?_ (by first | omega | (simp <;> omega)) _ | refine Below.alloc ?_ (by first | omega | (simp <;> omega)) _ | refine below_drewN ?_ _)))) (Go.Canon.tr_seg ?_)
        simp only [List.map_cons, List.map_nil, List.getD_cons_zero, List.getD_cons_succ]
        refine wpList_struct rfl 24 [(0, .tmp 14), (1, .tmp 17)] rfl [(0, .int .i64 n), (1, .slice A5 T.length cap5)] rfl (.agg #[.int .i64 n, .slice A5 T.length cap5]) (build_soup _ _ _ _) ?_
        go_wp2_with fail
        refine Go.Canon.tr_to (Go.Canon.tr_one ?_)
        simp only [List.getD_cons_zero, List.getD_cons_succ]
        go_wp2_with fail
        -- behind 9
        refine Go.Canon.tr_end (keep_below (below_undrew (by repeat (first | exact Below.refl _ _ | assumption | refine Below.drew ?_ | refine Below.setCell ?_ (by first | omega | (simp <;> omega)) _ | refine Below.alloc ?_ (by first | omega | (simp <;> omega)) _ | refine below_drewN ?_ _)))) (Go.Canon.tr_seg ?_)
        simp only [List.map_cons, List.map_nil, List.getD_cons_zero, List.getD_cons_succ]
        refine wpList_struct rfl 120 [(0, .tmp 18), (1, .tmp 19), (2, .tmp 22)] rfl [(0, .agg #[.int .i64 n, .slice A5 T.length cap5]), (1, .map (some (wo.heap.size))), (2, .slice (some ⟨w2.heap.size, 0, none⟩) n n)] rfl (.agg #[.int .i64 n, .slice A5 T.length cap5, .map (some (wo.heap.size)), .slice (some ⟨w2.heap.size, 0, none⟩) n n]) (build_table _ _ _ _ _ _ _ _) ?_
        go_wp2_with fail
        refine Go.Canon.tr_to (Go.Canon.tr_one ?_)
        simp only [List.getD_cons_zero, List.getD_cons_succ]
        go_wp2_with fail
        refine Go.Canon.tr_end (keep_below (below_undrew (by repeat (first | exact Below.refl _ _ | assumption | refine Below.drew ?_ | refine Below.setCell ?_ (by first | omega | (simp <;> omega)) _ | refine Below.alloc ?_ (by first | omega | (simp <;> omega)) _ | refine below_drewN ?_ _)))) (Go.Canon.tr_seg ?_)
        simp only [List.map_cons, List.map_nil, List.getD_cons_zero, List.getD_cons_succ]
        go_wp2_with fail
        have oF : World.ownsRow ((w2).alloc (.cells (Array.replicate n (.int .i64 0)) 3)) w.heap.size 57 3 (.slice A5 T.length cap5) T.length (flat3 T) := ((own_base (base' := w.heap.size) ho (by first | omega | (simp <;> omega)))).alloc (.cells (Array.replicate n (.int .i64 0)) 3)
        have mF : Mp enc2 ok2 Words.encI ((w2).alloc (.cells (Array.replicate n (.int .i64 0)) 3)) (wo.heap.size) ([] : List ((Int × Int) × Nat)) := (((Mp.new' (enc := enc2) (ok := ok2) (ev := Words.encI) (κ := Int × Int) (n := wo.heap.size) (w := wo.drew) (by simp))).below hb3 (by first | omega | (simp <;> omega))).alloc (.cells (Array.replicate n (.int .i64 0)) 3)
        have fF : Bk ((w2).alloc (.cells (Array.replicate n (.int .i64 0)) 3)) (w2.heap.size) 3 (List.replicate n (.int .i64 0)) := (Bk.new' (n := w2.heap.size) (w := w2) 3 (List.replicate n (.int .i64 0)) (by simp))
        have kF : Below wo.heap.size wo ((w2).alloc (.cells (Array.replicate n (.int .i64 0)) 3)) := (by repeat (first | exact Below.refl _ _ | assumption | refine Below.drew ?_ | refine Below.setCell ?_ (by first | omega | (simp <;> omega)) _ | refine Below.alloc ?_ (by first | omega | (simp <;> omega)) _ | refine below_drewN ?_ _))
        obtain ⟨gt, hgt9⟩ : ∃ gt : Nat, gt = w2.heap.size + 1 := ⟨_, rfl⟩
        have qT : gt = ((w2).alloc (.cells (Array.replicate n (.int .i64 0)) 3)).heap.size := by first | exact hgt9 | (rw [hgt9]; simp)
        rw [← hgt9]
        clear hgt9
        obtain ⟨wl, hwl⟩ : ∃ wl : World, wl = (w2).alloc (.cells (Array.replicate n (.int .i64 0)) 3) := ⟨_, rfl⟩
        rw [← hwl] at oF mF fF kF qT
        rw [← hwl]
        have qF : w.heap.size + 2 ≤ wo.heap.size ∧ w.heap.size + 2 ≤ w2.heap.size := by omega
        refine Go.Canon.tr_to (Go.Canon.tr_fin (by rfl) (List.forall_mem_cons.2 ⟨.inl ⟨_, rfl, (by show w.heap.size < wo.heap.size; omega), by rw [World.cell?_drew, b0]; rfl⟩, List.forall_mem_cons.2 ⟨.inl ⟨_, rfl, (by show w.heap.size < wo.heap.size; omega), by rw [World.cell?_drew, b1]; rfl⟩, List.forall_mem_cons.2 ⟨.inl ⟨_, rfl, (by show w.heap.size < wo.heap.size; omega), by rw [World.cell?_drew, b0]; rfl⟩, fun _ h => by cases h⟩⟩⟩) ?_)
        obtain ⟨gm, hgm⟩ : ∃ gm : Nat, gm = wo.heap.size := ⟨_, rfl⟩
        rw [← hgm] at mF qF ⊢
        clear hgm
        obtain ⟨gf, hgf⟩ : ∃ gf : Nat, gf = w2.heap.size := ⟨_, rfl⟩
        rw [← hgf] at fF qF ⊢
        clear hgf
      case' d62 =>
        simp only [List.getD_cons_zero, List.getD_cons_succ]
        go_wp2_with fail
        -- behind 9
        refine Go.Canon.tr_end (keep_below (below_undrew (by repeat (first | exact Below.refl _ _ | assumption | refine Below.drew ?_ | refine Below.setCell ?_ (by first | omega | (simp <;> omega)) _ | refine Below.alloc ?_ (by first | omega | (simp <;> omega)) _ | refine below_drewN ?_ _)))) (Go.Canon.tr_one ?_)
        simp only [List.getD_cons_zero, List.getD_cons_succ]
        go_wp2_with fail
        refine (Hhcl.out (((wo.drew).alloc (.map #[] 0)).alloc (.cells (Array.replicate n (.int .i64 0)) 3)) (by repeat (first | exact Below.refl _ _ | assumption | refine Below.drew ?_ | refine Below.setCell ?_ (by first | omega | (simp <;> omega)) _ | refine Below.alloc ?_ (by first | omega | (simp <;> omega)) _ | refine below_drewN ?_ _))).mono ?_
        rintro e w2 ⟨⟨vt, rfl, ho⟩, hb3⟩
        obtain ⟨A5, cap5, rfl, hcap5⟩ := own_form ho
        have hz2 := hb3.size
        have hK : Below wo.heap.size wo w2 := below_call (B := wo.heap.size) (show Below wo.heap.size wo (((wo.drew).alloc (.map #[] 0)).alloc (.cells (Array.replicate n (.int .i64 0)) 3)) from (by repeat (first | exact Below.refl _ _ | assumption | refine Below.drew ?_ | refine Below.setCell ?_ (by first | omega | (simp <;> omega)) _ | refine Below.alloc ?_ (by first | omega | (simp <;> omega)) _ | refine below_drewN ?_ _))) hb3 (by first | exact Nat.le_refl _ | (simp <;> omega))
        have hzK := hK.size
        go_wp2_with fail
        -- behind 4
        refine Go.Canon.tr_end (keep_below (below_undrew (by repeat (first | exact Below.refl _ _ | assumption | refine Below.drew ?_ | refine Below.setCell ?_ (by first | omega | (simp <;> omega)) _ | refine Below.alloc ?_ (by first | omega | (simp <;> omega)) _ | refine below_drewN ?_ _)))) (Go.Canon.tr_seg ?_)
        simp only [List.map_cons, List.map_nil, List.getD_cons_zero, List.getD_cons_succ]
        refine wpList_struct rfl 24 [(0, .tmp 14), (1, .tmp 17)] rfl [(0, .int .i64 n), (1, .slice A5 T.length cap5)] rfl (.agg #[.int .i64 n, .slice A5 T.length cap5]) (build_soup _ _ _ _) ?_
        refine wpList_struct rfl 120 [(0, .tmp 18), (1, .tmp 19), (2, .tmp 22)] rfl [(0, .agg #[.int .i64 n, .slice A5 T.length cap5]), (1, .map (some (wo.heap.size))), (2, .slice (some ⟨wo.heap.size + 1, 0, none⟩) n n)] rfl (.agg #[.int .i64 n, .slice A5 T.length cap5, .map (some (wo.heap.size)), .slice (some ⟨wo.heap.size + 1, 0, none⟩) n n]) (build_table _ _ _ _ _ _ _ _) ?_
        go_wp2_with fail
        refine Go.Canon.tr_to (Go.Canon.tr_one ?_)
        simp only [List.getD_cons_zero, List.getD_cons_succ]
        go_wp2_with fail
        refine Go.Canon.tr_end (keep_below (below_undrew (by repeat (first | exact Below.refl _ _ | assumption | refine Below.drew ?_ | refine Below.setCell ?_ (by first | omega | (simp <;> omega)) _ | refine Below.alloc ?_ (by first | omega | (simp <;> omega)) _ | refine below_drewN ?_ _)))) (Go.Canon.tr_seg ?_)
        simp only [List.map_cons, List.map_nil, List.getD_cons_zero, List.getD_cons_succ]
        go_wp2_with fail
        have oF : World.ownsRow (w2) w.heap.size 57 3 (.slice A5 T.length cap5) T.length (flat3 T) := (own_base (base' := w.heap.size) ho (by first | omega | (simp <;> omega)))
        have mF : Mp enc2 ok2 Words.encI (w2) (wo.heap.size) ([] : List ((Int × Int) × Nat)) := (((Mp.new' (enc := enc2) (ok := ok2) (ev := Words.encI) (κ := Int × Int) (n := wo.heap.size) (w := wo.drew) (by simp))).alloc (.cells (Array.replicate n (.int .i64 0)) 3)).below hb3 (by first | omega | (simp <;> omega))
        have fF : Bk (w2) (wo.heap.size + 1) 3 (List.replicate n (.int .i64 0)) := ((Bk.new' (n := wo.heap.size + 1) (w := (wo.drew).alloc (.map #[] 0)) 3 (List.replicate n (.int .i64 0)) (by simp))).below hb3 (by first | omega | (simp <;> omega))
        have kF : Below wo.heap.size wo (w2) := (by repeat (first | exact Below.refl _ _ | assumption | refine Below.drew ?_ | refine Below.setCell ?_ (by first | omega | (simp <;> omega)) _ | refine Below.alloc ?_ (by first | omega | (simp <;> omega)) _ | refine below_drewN ?_ _))
        obtain ⟨gt, hgt9⟩ : ∃ gt : Nat, gt = w2.heap.size := ⟨_, rfl⟩
        have qT : gt = (w2).heap.size := by first | exact hgt9 | (rw [hgt9]; simp)
        rw [← hgt9]
        clear hgt9
        obtain ⟨wl, hwl⟩ : ∃ wl : World, wl = w2 := ⟨_, rfl⟩
        rw [← hwl] at oF mF fF kF qT
        rw [← hwl]
        have qF : w.heap.size + 2 ≤ wo.heap.size ∧ w.heap.size + 2 ≤ wo.heap.size + 1 := by omega
        refine Go.Canon.tr_to (Go.Canon.tr_fin (by rfl) (List.forall_mem_cons.2 ⟨.inl ⟨_, rfl, (by show w.heap.size < wo.heap.size; omega), by rw [World.cell?_drew, b0]; rfl⟩, List.forall_mem_cons.2 ⟨.inl ⟨_, rfl, (by show w.heap.size < wo.heap.size; omega), by rw [World.cell?_drew, b1]; rfl⟩, List.forall_mem_cons.2 ⟨.inl ⟨_, rfl, (by show w.heap.size < wo.heap.size; omega), by rw [World.cell?_drew, b0]; rfl⟩, fun _ h => by cases h⟩⟩⟩) ?_)
        obtain ⟨gf, hgf⟩ : ∃ gf : Nat, gf = wo.heap.size + 1 := ⟨_, rfl⟩
        rw [← hgf] at fF qF ⊢
        clear hgf
        obtain ⟨gm, hgm⟩ : ∃ gm : Nat, gm = wo.heap.size := ⟨_, rfl⟩
        rw [← hgm] at mF qF ⊢
        clear hgm
    case' c9 =>
      simp only [List.getD_cons_zero, List.getD_cons_succ]
      go_wp2_with fail
      -- behind 9
      refine Go.Canon.tr_end (keep_below (below_undrew (by repeat (first | exact Below.refl _ _ | assumption | refine Below.drew ?_ | refine Below.setCell ?_ (by first | omega | (simp <;> omega)) _ | refine Below.alloc ?_ (by first | omega | (simp <;> omega)) _ | refine below_drewN ?_ _)))) (Go.Canon.tr_alt ?d91 (Go.Canon.tr_alt ?d92 Go.Canon.tr_no))
      case' d91 =>
        simp only [List.getD_cons_zero, List.getD_cons_succ]
        go_wp2_with fail
        refine (Hhcl.out ((wo.drew).alloc (.cells (Array.replicate n (.int .i64 0)) 3)) (by repeat (first | exact Below.refl _ _ | assumption | refine Below.drew ?_ | refine Below.setCell ?_ (by first | omega | (simp <;> omega)) _ | refine Below.alloc ?_ (by first | omega | (simp <;> omega)) _ | refine below_drewN ?_ _))).mono ?_
        rintro e w2 ⟨⟨vt, rfl, ho⟩, hb3⟩
        obtain ⟨A5, cap5, rfl, hcap5⟩ := own_form ho
        have hz2 := hb3.size
        have hK : Below wo.heap.size wo w2 := below_call (B := wo.heap.size) (show Below wo.heap.size wo ((wo.drew).alloc (.cells (Array.replicate n (.int .i64 0)) 3)) from (by repeat (first | exact Below.refl _ _ | assumption | refine Below.drew ?_ | refine Below.setCell ?_ (by first | omega | (simp <;> omega)) _ | refine Below.alloc ?_ (by first | omega | (simp <;> omega)) _ | refine below_drewN ?_ _))) hb3 (by first | exact Nat.le_refl _ | (simp <;> omega))
        have hzK := hK.size
        go_wp2_with fail
        -- behind 4
        refine Go.Canon.tr_end (keep_below (below_undrew (by repeat (first | exact Below.refl _ _ | assumption | refine Below.drew ?_ | refine Below.setCell ?_ (by first | omega | (simp <;> omega)) _ | refine Below.alloc ?_ (by first | omega | (simp <;> omega)) _ | refine below_drewN ?_ _)))) (Go.Canon.tr_seg ?_)
        simp only [List.map_cons, List.map_nil, List.getD_cons_zero, List.getD_cons_succ]
        refine wpList_struct rfl 24 [(0, .tmp 14), (1, .tmp 17)] rfl [(0, .int .i64 n), (1, .slice A5 T.length cap5)] rfl (.agg #[.int .i64 n, .slice A5 T.length cap5]) (build_soup _ _ _ _) ?_
        go_wp2_with fail
        refine Go.Canon.tr_to (Go.Canon.tr_one ?_)
        simp only [List.getD_cons_zero, List.getD_cons_succ]
        go_wp2_with fail
        -- behind 6
        refine Go.Canon.tr_end (keep_below (below_undrew (by repeat (first | exact Below.refl _ _ | assumption | refine Below.drew ?_ | refine Below.setCell ?_ (by first | omega | (simp <;> omega)) _ | refine Below.alloc ?_ (by first | omega | (simp <;> omega)) _ | refine below_drewN ?_ _)))) (Go.Canon.tr_seg ?_)
        simp only [List.map_cons, List.map_nil, List.getD_cons_zero, List.getD_cons_succ]
        refine wpList_struct rfl 120 [(0, .tmp 18), (1, .tmp 19), (2, .tmp 22)] rfl [(0, .agg #[.int .i64 n, .slice A5 T.length cap5]), (1, .map (some (w2.heap.size))), (2, .slice (some ⟨wo.heap.size, 0, none⟩) n n)] rfl (.agg #[.int .i64 n, .slice A5 T.length cap5, .map (some (w2.heap.size)), .slice (some ⟨wo.heap.size, 0, none⟩) n n]) (build_table _ _ _ _ _ _ _ _) ?_
        go_wp2_with fail
        refine Go.Canon.tr_to (Go.Canon.tr_one ?_)
        simp only [List.getD_cons_zero, List.getD_cons_succ]
        go_wp2_with fail
        refine Go.Canon.tr_end (keep_below (below_undrew (by repeat (first | exact Below.refl _ _ | assumption | refine Below.drew ?_ | refine Below.setCell ?_ (by first | omega | (simp <;> omega)) _ | refine Below.alloc ?_ (by first | omega | (simp <;> omega)) _ | refine below_drewN ?_ _)))) (Go.Canon.tr_seg ?_)
        simp only [List.map_cons, List.map_nil, List.getD_cons_zero, List.getD_cons_succ]
        go_wp2_with fail
        have oF : World.ownsRow ((w2).alloc (.map #[] 0)) w.heap.size 57 3 (.slice A5 T.length cap5) T.length (flat3 T) := ((own_base (base' := w.heap.size) ho (by first | omega | (simp <;> omega)))).alloc (.map #[] 0)
        have mF : Mp enc2 ok2 Words.encI ((w2).alloc (.map #[] 0)) (w2.heap.size) ([] : List ((Int × Int) × Nat)) := (Mp.new' (enc := enc2) (ok := ok2) (ev := Words.encI) (κ := Int × Int) (n := w2.heap.size) (w := w2) (by simp))
        have fF : Bk ((w2).alloc (.map #[] 0)) (wo.heap.size) 3 (List.replicate n (.int .i64 0)) := (((Bk.new' (n := wo.heap.size) (w := wo.drew) 3 (List.replicate n (.int .i64 0)) (by simp))).below hb3 (by first | omega | (simp <;> omega))).alloc (.map #[] 0)
        have kF : Below wo.heap.size wo ((w2).alloc (.map #[] 0)) := (by repeat (first | exact Below.refl _ _ | assumption | refine Below.drew ?_ | refine Below.setCell ?_ (by first | omega | (simp <;> omega)) _ | refine Below.alloc ?_ (by first | omega | (simp <;> omega)) _ | refine below_drewN ?_ _))
        obtain ⟨gt, hgt9⟩ : ∃ gt : Nat, gt = w2.heap.size + 1 := ⟨_, rfl⟩
        have qT : gt = ((w2).alloc (.map #[] 0)).heap.size := by first | exact hgt9 | (rw [hgt9]; simp)
        rw [← hgt9]
        clear hgt9
        obtain ⟨wl, hwl⟩ : ∃ wl : World, wl = (w2).alloc (.map #[] 0) := ⟨_, rfl⟩
        rw [← hwl] at oF mF fF kF qT
        rw [← hwl]
        have qF : w.heap.size + 2 ≤ w2.heap.size ∧ w.heap.size + 2 ≤ wo.heap.size := by omega
        refine Go.Canon.tr_to (Go.Canon.tr_fin (by rfl) (List.forall_mem_cons.2 ⟨.inl ⟨_, rfl, (by show w.heap.size < wo.heap.size; omega), by rw [World.cell?_drew, b0]; rfl⟩, List.forall_mem_cons.2 ⟨.inl ⟨_, rfl, (by show w.heap.size < wo.heap.size; omega), by rw [World.cell?_drew, b1]; rfl⟩, List.forall_mem_cons.2 ⟨.inl ⟨_, rfl, (by show w.heap.size < wo.heap.size; omega), by rw [World.cell?_drew, b0]; rfl⟩, fun _ h => by cases h⟩⟩⟩) ?_)
        obtain ⟨gm, hgm⟩ : ∃ gm : Nat, gm = w2.heap.size := ⟨_, rfl⟩
        rw [← hgm] at mF qF ⊢
        clear hgm
        obtain ⟨gf, hgf⟩ : ∃ gf : Nat, gf = wo.heap.size := ⟨_, rfl⟩
        rw [← hgf] at fF qF ⊢
        clear hgf
      case' d92 =>
        simp only [List.getD_cons_zero, List.getD_cons_succ]
        go_wp2_with fail
        -- behind 6
        refine Go.Canon.tr_end (keep_below (below_undrew (by repeat (first | exact Below.refl _ _ | assumption | refine Below.drew ?_ | refine Below.setCell ?_ (by first | omega | (simp <;> omega)) _ | refine Below.alloc ?_ (by first | omega | (simp <;> omega)) _ | refine below_drewN ?_ _)))) (Go.Canon.tr_one ?_)
        simp only [List.getD_cons_zero, List.getD_cons_succ]
        go_wp2_with fail
        refine (Hhcl.out (((wo.drew).alloc (.cells (Array.replicate n (.int .i64 0)) 3)).alloc (.map #[] 0)) (by repeat (first | exact Below.refl _ _ | assumption | refine Below.drew ?_ | refine Below.setCell ?_ (by first | omega | (simp <;> omega)) _ | refine Below.alloc ?_ (by first | omega | (simp <;> omega)) _ | refine below_drewN ?_ _))).mono ?_
        rintro e w2 ⟨⟨vt, rfl, ho⟩, hb3⟩
        obtain ⟨A5, cap5, rfl, hcap5⟩ := own_form ho
        have hz2 := hb3.size
        have hK : Below wo.heap.size wo w2 := below_call (B := wo.heap.size) (show Below wo.heap.size wo (((wo.drew).alloc (.cells (Array.replicate n (.int .i64 0)) 3)).alloc (.map #[] 0)) from (by repeat (first | exact Below.refl _ _ | assumption | refine Below.drew ?_ | refine Below.setCell ?_ (by first | omega | (simp <;> omega)) _ | refine Below.alloc ?_ (by first | omega | (simp <;> omega)) _ | refine below_drewN ?_ _))) hb3 (by first | exact Nat.le_refl _ | (simp <;> omega))
        have hzK := hK.size
        go_wp2_with fail
        -- behind 4
        refine Go.Canon.tr_end (keep_below (below_undrew (by repeat (first | exact Below.refl _ _ | assumption | refine Below.drew ?_ | refine Below.setCell ?_ (by first | omega | (simp <;> omega)) _ | refine Below.alloc ?_ (by first | omega | (simp <;> omega)) _ | refine below_drewN ?_ _)))) (Go.Canon.tr_seg ?_)
        simp only [List.map_cons, List.map_nil, List.getD_cons_zero, List.getD_cons_succ]
        refine wpList_struct rfl 24 [(0, .tmp 14), (1, .tmp 17)] rfl [(0, .int .i64 n), (1, .slice A5 T.length cap5)] rfl (.agg #[.int .i64 n, .slice A5 T.length cap5]) (build_soup _ _ _ _) ?_
        refine wpList_struct rfl 120 [(0, .tmp 18), (1, .tmp 19), (2, .tmp 22)] rfl [(0, .agg #[.int .i64 n, .slice A5 T.length cap5]), (1, .map (some (wo.heap.size + 1))), (2, .slice (some ⟨wo.heap.size, 0, none⟩) n n)] rfl (.agg #[.int .i64 n, .slice A5 T.length cap5, .map (some (wo.heap.size + 1)), .slice (some ⟨wo.heap.size, 0, none⟩) n n]) (build_table _ _ _ _ _ _ _ _) ?_
        go_wp2_with fail
        refine Go.Canon.tr_to (Go.Canon.tr_one ?_)
        simp only [List.getD_cons_zero, List.getD_cons_succ]
        go_wp2_with fail
        refine Go.Canon.tr_end (keep_below (below_undrew (by repeat (first | exact Below.refl _ _ | assumption | refine Below.drew ?_ | refine Below.setCell ?_ (by first | omega | (simp <;> omega)) _ | refine Below.alloc ?_ (by first | omega | (simp <;> omega)) _ | refine below_drewN ?_ _)))) (Go.Canon.tr_seg ?_)
        simp only [List.map_cons, List.map_nil, List.getD_cons_zero, List.getD_cons_succ]
        go_wp2_with fail
        have oF : World.ownsRow (w2) w.heap.size 57 3 (.slice A5 T.length cap5) T.length (flat3 T) := (own_base (base' := w.heap.size) ho (by first | omega | (simp <;> omega)))
        have mF : Mp enc2 ok2 Words.encI (w2) (wo.heap.size + 1) ([] : List ((Int × Int) × Nat)) := ((Mp.new' (enc := enc2) (ok := ok2) (ev := Words.encI) (κ := Int × Int) (n := wo.heap.size + 1) (w := (wo.drew).alloc (.cells (Array.replicate n (.int .i64 0)) 3)) (by simp))).below hb3 (by first | omega | (simp <;> omega))
        have fF : Bk (w2) (wo.heap.size) 3 (List.replicate n (.int .i64 0)) := (((Bk.new' (n := wo.heap.size) (w := wo.drew) 3 (List.replicate n (.int .i64 0)) (by simp))).alloc (.map #[] 0)).below hb3 (by first | omega | (simp <;> omega))
        have kF : Below wo.heap.size wo (w2) := (by repeat (first | exact Below.refl _ _ | assumption | refine Below.drew ?_ | refine Below.setCell ?_ (by first | omega | (simp <;> omega)) _ | refine Below.alloc ?_ (by first | omega | (simp <;> omega)) _ | refine below_drewN ?_ _))
        obtain ⟨gt, hgt9⟩ : ∃ gt : Nat, gt = w2.heap.size := ⟨_, rfl⟩
        have qT : gt = (w2).heap.size := by first | exact hgt9 | (rw [hgt9]; simp)
        rw [← hgt9]
        clear hgt9
        obtain ⟨wl, hwl⟩ : ∃ wl : World, wl = w2 := ⟨_, rfl⟩
        rw [← hwl] at oF mF fF kF qT
        rw [← hwl]
        have qF : w.heap.size + 2 ≤ wo.heap.size + 1 ∧ w.heap.size + 2 ≤ wo.heap.size := by omega
        refine Go.Canon.tr_to (Go.Canon.tr_fin (by rfl) (List.forall_mem_cons.2 ⟨.inl ⟨_, rfl, (by show w.heap.size < wo.heap.size; omega), by rw [World.cell?_drew, b0]; rfl⟩, List.forall_mem_cons.2 ⟨.inl ⟨_, rfl, (by show w.heap.size < wo.heap.size; omega), by rw [World.cell?_drew, b1]; rfl⟩, List.forall_mem_cons.2 ⟨.inl ⟨_, rfl, (by show w.heap.size < wo.heap.size; omega), by rw [World.cell?_drew, b0]; rfl⟩, fun _ h => by cases h⟩⟩⟩) ?_)
        obtain ⟨gm, hgm⟩ : ∃ gm : Nat, gm = wo.heap.size + 1 := ⟨_, rfl⟩
        rw [← hgm] at mF qF ⊢
        clear hgm
        obtain ⟨gf, hgf⟩ : ∃ gf : Nat, gf = wo.heap.size := ⟨_, rfl⟩
        rw [← hgf] at fF qF ⊢
        clear hgf
    all_goals
      have hgm := mF.lt
      have hgf := fF.lt
      have tA := Bk.new' (n := gt) (w := wl) 120 [.int .i64 n, .slice A5 T.length cap5, .map (some gm), .slice (some ⟨gf, 0, none⟩) n n] qT
      have oA := oF.alloc (.cells #[.int .i64 n, .slice A5 T.length cap5, .map (some gm), .slice (some ⟨gf, 0, none⟩) n n] 120)
      have mA := mF.alloc (.cells #[.int .i64 n, .slice A5 T.length cap5, .map (some gm), .slice (some ⟨gf, 0, none⟩) n n] 120)
      have fA := fF.alloc (.cells #[.int .i64 n, .slice A5 T.length cap5, .map (some gm), .slice (some ⟨gf, 0, none⟩) n n] 120)
      have rA := (HhresA.out.below kF (by omega)).alloc (.cells #[.int .i64 n, .slice A5 T.length cap5, .map (some gm), .slice (some ⟨gf, 0, none⟩) n n] 120)
      have bA := (HhboxA.out.below kF (by omega)).alloc (.cells #[.int .i64 n, .slice A5 T.length cap5, .map (some gm), .slice (some ⟨gf, 0, none⟩) n n] 120)
      have kz := kF.size
      have kA : Below w.heap.size w (wl.alloc (.cells #[.int .i64 n, .slice A5 T.length cap5, .map (some gm), .slice (some ⟨gf, 0, none⟩) n n] 120)) := (hbA.trans (kF.mono (by omega))).alloc (by omega) _
      obtain ⟨ws, hws⟩ : ∃ ws : World, ws = wl.alloc (.cells #[.int .i64 n, .slice A5 T.length cap5, .map (some gm), .slice (some ⟨gf, 0, none⟩) n n] 120) := ⟨_, rfl⟩
      have hgt : gt < ws.heap.size := by rw [hws, qT]; simp
      rw [← hws] at tA oA mA fA rA bA kA ⊢
      rw [← qT] at hgm hgf kz
      clear hws hwl kF oF mF fF qT hK hb3 ho hz2 hzK hcap5 hm1 hmm b0 b1
      have s0 : ws.cell? ⟨w.heap.size, 1, none⟩ = some (.slice A T.length cap) := bA.cell 1
      have hF0 : List.replicate n (Value.int .i64 0) = fvals (List.replicate n 0) := by unfold fvals; rw [List.map_replicate]; rfl
      rw [hF0] at fA
      have hsl9 : ∀ wr : World, wr.ownsRow w.heap.size 57 3 (.slice A5 T.length cap5) T.length (flat3 T) → Sl 3 RTri wr wr.heap.size (.slice A5 T.length cap5) T := fun wr h => Sl.of_own h fun i a hi => flat3_at T i a hi
      have HtA := Lib.hid tA; clear tA; have HoA := Lib.hid oA; clear oA; have HmA := Lib.hid mA; clear mA; have HfA := Lib.hid fA; clear fA; have HrA := Lib.hid rA; clear rA; have HbA := Lib.hid bA; clear bA; have HhF0 := Lib.hid hF0; clear hF0; have Hhsl9 := Lib.hid hsl9; clear hsl9
      have hgt3 : w.heap.size + 3 ≤ gt := by omega
      clear kz hbA hzo hk Hhk hxy Hhcl Hhwit HhresA HhboxA Hh Hhbox Hhres Hhc Hhbox1 Hhres1 hb2 hbel hz1 hcap hB0 wo w2 wl
      go_wp2_with fail
      go_loopw [6] (fun i wr => ∃ (c : Nat) (m : List ((Int × Int) × Nat)) (F : List Nat), c ≤ 3 * T.length ∧ i = .int .i64 ((c : Int) - 1) ∧ Bk wr gt 120 [.int .i64 n, .slice A5 T.length cap5, .map (some gm), .slice (some ⟨gf, 0, none⟩) n n] ∧ wr.ownsRow w.heap.size 57 3 (.slice A5 T.length cap5) T.length (flat3 T) ∧
          Mp enc2 ok2 Words.encI wr gm m ∧ Bk wr gf 3 (fvals F) ∧ FirstAt T n c F ∧ (∀ e, ok2 e → Words.look m e = faceFrom T c e) ∧ Bk wr (w.heap.size + 1) 48 [.int .i64 0, .int .i64 0, .int .i64 0] ∧ Below w.heap.size w wr)
        (fun i _ => (intOf i + 1).toNat)
      case atStart => exact ⟨3 * T.length, [], List.replicate n 0, by omega, by simp, HtA.out, HoA.out, HmA.out, HfA.out, firstAt_start T n, fun e _ => by rw [faceFrom_end]; rfl, HrA.out, kA⟩
      case round =>
        obtain ⟨c, m, F, hc, rfl, tB, oB, mB, fB, hF, hm, rB, kB⟩ := hrel
        have hz := kB.size
        have hgtr := tB.lt
        have tab : TabAt wr wr.heap.size gt n T (.slice A5 T.length cap5) gm (.slice (some ⟨gf, 0, none⟩) n n) := ⟨tB, Hhsl9.out wr oB, hT, hgtr, Nat.le_refl _⟩
        cases c with
        | zero =>
          have f1 := rB.frozen
          have r0 : wr.cell? ⟨w.heap.size + 1, 0, none⟩ = some (.int .i64 0) := rB.cell 0
          have r1 : wr.cell? ⟨w.heap.size + 1, 1, none⟩ = some (.int .i64 0) := rB.cell 1
          have r2 : wr.cell? ⟨w.heap.size + 1, 2, none⟩ = some (.int .i64 0) := rB.cell 2
          have hgfl := fB.lt
          have hgml := mB.lt
          have fin : ∀ wz : World, wz.heap.size = wr.heap.size → Bk wz gt 120 [.int .i64 n, .slice A5 T.length cap5, .map (some gm), .slice (some ⟨gf, 0, none⟩) n n] → wz.ownsRow w.heap.size 57 3 (.slice A5 T.length cap5) T.length (flat3 T) → Mp enc2 ok2 Words.encI wz gm m → Bk wz gf 3 (fvals F) → Tab wz wz.heap.size (.pointer (some ⟨gt, 0, none⟩)) n T := by
            intro wz hsz tB oB mB fB
            have hFl : F.length = n := hF.1
            refine ⟨gt, _, gm, _, m, F, rfl, ⟨tB, Hhsl9.out wz oB, hT, by omega, Nat.le_refl _⟩, mB, by omega, fun e he => by rw [hm e he, faceFrom_zero], ?_, by rw [Int.toNat_natCast]; exact hF⟩
            have hsl := Sl.of_block (sz := 1) (R := RInt) (cap := n) (l := F.map fun n : Nat => (n : Int)) fB (by simp [hFl]) (fun i a hi => ?_)
            · rw [List.length_map, hFl] at hsl
              exact hsl
            · rw [List.getElem?_map, Option.map_eq_some_iff] at hi
              obtain ⟨x, hx, rfl⟩ := hi
              have hxl := (List.getElem?_eq_some_iff.1 hx).1
              refine ⟨by rw [fvals_len]; omega, ?_⟩
              unfold RInt fvals
              rw [Nat.mul_one, List.drop_eq_getElem_cons (by simpa using hxl)]
              have h9 : F[i] = x := (List.getElem?_eq_some_iff.1 hx).2
              simp [h9, Words.encI]
          have HtB := Lib.hid tB; clear tB; have HoB := Lib.hid oB; clear oB; have HmB := Lib.hid mB; clear mB; have HfB := Lib.hid fB; clear fB; have HrB := Lib.hid rB; clear rB; have Htab := Lib.hid tab; clear tab; have Hfin := Lib.hid fin; clear fin; have HhF := Lib.hid hF; clear hF; have Hhm := Lib.hid hm; clear hm
          go_wp2
          refine ret_tc rfl rfl (((HrB.out.set 0 _).set 1 _).set 2 _) Tryz.underlying48 rfl (by kernel_rfl) rfl ⟨⟨_, _, _, _, rfl, .inl ⟨Hhs.out, ?_⟩⟩, ((kB.setCell (by simp) _).setCell (by simp) _).setCell (by simp) _⟩
          refine Hfin.out _ (by simp) ?_ ?_ ?_ ?_
          · exact ((HtB.out.far (by simp; omega) _).far (by simp; omega) _).far (by simp; omega) _
          · exact own_far (own_far (own_far HoB.out HrB.out (by decide)) (HrB.out.set 0 _) (by decide)) ((HrB.out.set 0 _).set 1 _) (by decide)
          · exact ((HmB.out.far (by simp; omega) _).far (by simp; omega) _).far (by simp; omega) _
          · exact ((HfB.out.far (by simp; omega) _).far (by simp; omega) _).far (by simp; omega) _
        | succ c =>
          have hclt : c < 3 * T.length := by omega
          have hci : ((c + 1 : Nat) : Int) - 1 = (c : Int) := by omega
          rw [hci]
          have hgmr := mB.lt
          have hgfr := fB.lt
          have hrr := rB.lt
          have hgne : gt ≠ gf := by omega
          have hgne2 : gm ≠ gf := by
            rintro rfl
            obtain ⟨es, clock, hb9, _⟩ := mB.block
            have fB9 := fB
            unfold Bk at fB9
            rw [fB9] at hb9
            cases hb9
          have t1 : wr.cell? ⟨gt, 2, none⟩ = some (.map (some gm)) := tB.cell 2
          have hrng := Hhs.out.rng c hclt
          obtain ⟨u, hu⟩ : ∃ u : Nat, Mesh.vt T c = u := ⟨(Mesh.vt T c).toNat, by omega⟩
          have hun : u < n := by omega
          have hstep := fun e => faceFrom_step T hclt e
          have hok := eg_ok Hhs.out hclt
          have hedge : ∀ wz : World, TabAt wz wz.heap.size gt n T (.slice A5 T.length cap5) gm (.slice (some ⟨gf, 0, none⟩) n n) → Calls Tryz.prog 26 #[.pointer (some ⟨gt, 0, none⟩), .int .i64 (c : Int)] wz fun e w' => e = .returned (enc2 (eg T c)) ∧ RowKit.Below wz.heap.size wz w' := by
            intro wz hz9
            have := edge_calls hz9 (c : Int)
            rw [tEdge_at hclt] at this
            exact this
          have hvert : ∀ wz : World, TabAt wz wz.heap.size gt n T (.slice A5 T.length cap5) gm (.slice (some ⟨gf, 0, none⟩) n n) → Calls Tryz.prog 77 #[.pointer (some ⟨gt, 0, none⟩), .int .i64 (c : Int)] wz fun e w' => e = .returned (.int .i64 (u : Int)) ∧ w' = wz := by
            intro wz hz9
            have := vertex_calls hz9 (c : Int)
            rw [tVert_at hclt, hu] at this
            exact this
          have hFirst := firstAt_step hclt hu hF
          generalize eg T c = ed at hstep hok hedge
          have tBd := tB.drew
          have oBd := oB.drew
          have mBd := mB.drew
          have fBd := fB.drew
          have rBd := rB.drew
          have HtB := Lib.hid tB; clear tB; have HoB := Lib.hid oB; clear oB; have HmB := Lib.hid mB; clear mB; have HfB := Lib.hid fB; clear fB; have HrB := Lib.hid rB; clear rB; have Htab := Lib.hid tab; clear tab; have HhF := Lib.hid hF; clear hF; have Hhm := Lib.hid hm; clear hm; have Hhstep := Lib.hid hstep; clear hstep; have Hhok := Lib.hid hok; clear hok; have Hhedge := Lib.hid hedge; clear hedge; have Hhvert := Lib.hid hvert; clear hvert; have HhFirst := Lib.hid hFirst; clear hFirst; have Hhu := Lib.hid hu; clear hu; have HtBd := Lib.hid tBd; clear tBd; have HoBd := Lib.hid oBd; clear oBd; have HmBd := Lib.hid mBd; clear mBd; have HfBd := Lib.hid fBd; clear fBd; have HrBd := Lib.hid rBd; clear rBd
          go_wp2_with fail
          refine Go.Canon.wp_region_tree [3] (· = gt) (.seg [0,4,5,7] (.alt 1 (.seg [2,3] (.alt 6 (.alt 8 .fin .no) .no)) (.alt 6 (.alt 1 (.seg [2,3] (.alt 8 .fin .no)) .no) .no))) mixed (by kernel_rfl) ?_
          refine Go.Canon.tr_seg ?_
          simp only [List.map_cons, List.map_nil, List.getD_cons_zero, List.getD_cons_succ]
          go_wp2_with fail
          refine Go.Canon.tr_to (Go.Canon.tr_alt ?_ (Go.Canon.tr_alt ?_ Go.Canon.tr_no))
          · simp only [List.getD_cons_zero, List.getD_cons_succ]
            go_wp2_with fail
            refine Go.Canon.tr_end (keep_blk HtBd.out HtBd.out ⟨rfl, rfl⟩) (Go.Canon.tr_seg ?_)
            simp only [List.map_cons, List.map_nil, List.getD_cons_zero, List.getD_cons_succ]
            go_wp2_with fail
            refine Go.Canon.tr_to (Go.Canon.tr_one ?_)
            simp only [List.getD_cons_zero, List.getD_cons_succ]
            go_wp2_with fail
            refine (Hhedge.out _ ⟨HtBd.out, Hhsl9.out wr.drew HoBd.out, hT, hgtr, Nat.le_refl _⟩).mono ?_
            rintro e w2 ⟨rfl, hb9⟩
            have hb8 : Below wr.heap.size wr w2 := ((Below.refl wr.heap.size wr).drew).trans hb9
            have t2 := HtB.out.below hb8 hgtr
            have o2 := own_below HoB.out hb8 (Nat.le_refl _)
            have m2 := HmB.out.below hb8 hgmr
            have f2 := HfB.out.below hb8 hgfr
            have r2 := HrB.out.below hb8 hrr
            have k2 := kB.trans (hb8.mono hz)
            have t2c : w2.cell? ⟨gt, 2, none⟩ = some (.map (some gm)) := t2.cell 2
            clear hb9 hb8
            have Ht2 := Lib.hid t2; clear t2; have Ho2 := Lib.hid o2; clear o2; have Hm2 := Lib.hid m2; clear m2; have Hf2 := Lib.hid f2; clear f2; have Hr2 := Lib.hid r2; clear r2
            go_wp2_with fail
            refine Go.Canon.tr_end (keep_blk HtBd.out Ht2.out ⟨rfl, rfl⟩) (Go.Canon.tr_one ?_)
            simp only [List.getD_cons_zero, List.getD_cons_succ]
            refine wpList_put _ rfl (.tmp 37) (.tmp 40) (.tmp 41) 118 rfl 39 3 keyE Tryz.underlying118 gm m rfl Hm2.out ed rfl Hhok.out c rfl ?_
            intro w3 m3 g3 hs3
            have t3 := Ht2.out.kept_map Hm2.out g3
            have o3 := own_kept_map Ho2.out Hm2.out g3
            have f3 := Hf2.out.kept_map Hm2.out g3
            have r3 := Hr2.out.kept_map Hm2.out g3
            have k3 := k2.grown g3 k2.size (fun q hq => by injection hq with hq; omega)
            have t3c : w3.cell? ⟨gt, 3, none⟩ = some (.slice (some ⟨gf, 0, none⟩) n n) := t3.cell 3
            clear g3 hs3
            have Ht3 := Lib.hid t3; clear t3; have Ho3 := Lib.hid o3; clear o3; have Hm3 := Lib.hid m3; clear m3; have Hf3 := Lib.hid f3; clear f3; have Hr3 := Lib.hid r3; clear r3
            go_wp2_with fail
            refine Go.Canon.tr_end (keep_blk HtBd.out Ht3.out ⟨rfl, rfl⟩) (Go.Canon.tr_fin (by rfl) (List.forall_mem_cons.2 ⟨.inl ⟨_, rfl, rfl, by rw [World.cell?_drew, t1]; rfl⟩, fun _ h => by cases h⟩) ?_)
            have f9 := Hf3.out.frozen
            obtain ⟨v9, d9⟩ : ∃ v9, w3.cell? ⟨gf, u, none⟩ = some v9 := by rw [Hf3.out.cell]; exact ⟨_, List.getElem?_eq_getElem (by rw [fvals_len, HhF.out.1]; exact hun)⟩
            have t3d := Ht3.out.drew
            have o3d := Ho3.out.drew
            have Ht3d := Lib.hid t3d; clear t3d; have Ho3d := Lib.hid o3d; clear o3d
            go_wp2_with fail
            refine Go.Canon.wp_region_tree [3] (· = gt) (.seg [0,4,5,7] (.alt 1 (.seg [2,3] (.alt 6 (.seg [8] (.alt 9 .fin .no)) .no)) (.alt 6 (.alt 1 (.seg [2,3,8] (.alt 9 .fin .no)) .no) .no))) mixed (by kernel_rfl) ?_
            refine Go.Canon.tr_seg ?_
            simp only [List.map_cons, List.map_nil, List.getD_cons_zero, List.getD_cons_succ]
            go_wp2_with fail
            refine Go.Canon.tr_to (Go.Canon.tr_alt ?_ (Go.Canon.tr_alt ?_ Go.Canon.tr_no))
            · simp only [List.getD_cons_zero, List.getD_cons_succ]
              go_wp2_with fail
              refine Go.Canon.tr_end (keep_blk Ht3d.out Ht3d.out ⟨rfl, rfl⟩) (Go.Canon.tr_seg ?_)
              simp only [List.map_cons, List.map_nil, List.getD_cons_zero, List.getD_cons_succ]
              go_wp2_with fail
              refine Go.Canon.tr_to (Go.Canon.tr_one ?_)
              simp only [List.getD_cons_zero, List.getD_cons_succ]
              go_wp2_with fail
              refine (Hhvert.out _ ⟨Ht3d.out, Hhsl9.out _ Ho3d.out, hT, Ht3.out.lt, Nat.le_refl _⟩).mono ?_
              rintro e w4 ⟨rfl, rfl⟩
              go_wp2_with fail
              refine Go.Canon.tr_end (keep_blk Ht3d.out Ht3d.out ⟨rfl, rfl⟩) (Go.Canon.tr_seg ?_)
              simp only [List.map_cons, List.map_nil, List.getD_cons_zero, List.getD_cons_succ]
              go_wp2_with fail
              refine Go.Canon.tr_to (Go.Canon.tr_one ?_)
              simp only [List.getD_cons_zero, List.getD_cons_succ]
              go_wp2_with fail
              refine Go.Canon.tr_end (keep_blk Ht3d.out (Ht3d.out.far hgne _) ⟨rfl, rfl⟩) (Go.Canon.tr_fin (by rfl) (List.forall_mem_cons.2 ⟨.inl ⟨_, rfl, rfl, by rw [World.cell?_drew, t3c]; rfl⟩, fun _ h => by cases h⟩) ?_)
              go_wp2
              refine ⟨⟨c, Words.put m ed c, F.set u c, by omega, by simp, ?_, ?_, ?_, ?_, HhFirst.out, ?_, ?_, ?_⟩, by simp [intOf]⟩
              · exact Ht3.out.far (p := ⟨gf, u, none⟩) hgne _
              · exact own_far Ho3.out Hf3.out (by decide)
              · exact (Hm3.out.far (p := ⟨gf, u, none⟩) hgne2 _).drew
              · have := Hf3.out.set u (.int .i64 (c : Int)); rw [fvals_set] at this; exact this
              · intro e he; rw [Hhstep.out, ← Hhm.out e he, Words.look_put]
              · exact Hr3.out.far (p := ⟨gf, u, none⟩) (by show _ ≠ gf; omega) _
              · exact (k3.setCell (p := ⟨gf, u, none⟩) (by show _ ≤ gf; omega) _).drew
            · simp only [List.getD_cons_zero, List.getD_cons_succ]
              go_wp2_with fail
              refine (Hhvert.out _ ⟨Ht3d.out, Hhsl9.out _ Ho3d.out, hT, Ht3.out.lt, Nat.le_refl _⟩).mono ?_
              rintro e w4 ⟨rfl, rfl⟩
              go_wp2_with fail
              refine Go.Canon.tr_end (keep_blk Ht3d.out Ht3d.out ⟨rfl, rfl⟩) (Go.Canon.tr_one ?_)
              simp only [List.getD_cons_zero, List.getD_cons_succ]
              go_wp2_with fail
              refine Go.Canon.tr_end (keep_blk Ht3d.out Ht3d.out ⟨rfl, rfl⟩) (Go.Canon.tr_seg ?_)
              simp only [List.map_cons, List.map_nil, List.getD_cons_zero, List.getD_cons_succ]
              go_wp2_with fail
              refine Go.Canon.tr_to (Go.Canon.tr_one ?_)
              simp only [List.getD_cons_zero, List.getD_cons_succ]
              go_wp2_with fail
              refine Go.Canon.tr_end (keep_blk Ht3d.out (Ht3d.out.far hgne _) ⟨rfl, rfl⟩) (Go.Canon.tr_fin (by rfl) (List.forall_mem_cons.2 ⟨.inl ⟨_, rfl, rfl, by rw [World.cell?_drew, t3c]; rfl⟩, fun _ h => by cases h⟩) ?_)
              go_wp2
              refine ⟨⟨c, Words.put m ed c, F.set u c, by omega, by simp, ?_, ?_, ?_, ?_, HhFirst.out, ?_, ?_, ?_⟩, by simp [intOf]⟩
              · exact Ht3.out.far (p := ⟨gf, u, none⟩) hgne _
              · exact own_far Ho3.out Hf3.out (by decide)
              · exact (Hm3.out.far (p := ⟨gf, u, none⟩) hgne2 _).drew
              · have := Hf3.out.set u (.int .i64 (c : Int)); rw [fvals_set] at this; exact this
              · intro e he; rw [Hhstep.out, ← Hhm.out e he, Words.look_put]
              · exact Hr3.out.far (p := ⟨gf, u, none⟩) (by show _ ≠ gf; omega) _
              · exact (k3.setCell (p := ⟨gf, u, none⟩) (by show _ ≤ gf; omega) _).drew
          · simp only [List.getD_cons_zero, List.getD_cons_succ]
            go_wp2_with fail
            refine (Hhedge.out _ ⟨HtBd.out, Hhsl9.out wr.drew HoBd.out, hT, hgtr, Nat.le_refl _⟩).mono ?_
            rintro e w2 ⟨rfl, hb9⟩
            have hb8 : Below wr.heap.size wr w2 := ((Below.refl wr.heap.size wr).drew).trans hb9
            have t2 := HtB.out.below hb8 hgtr
            have o2 := own_below HoB.out hb8 (Nat.le_refl _)
            have m2 := HmB.out.below hb8 hgmr
            have f2 := HfB.out.below hb8 hgfr
            have r2 := HrB.out.below hb8 hrr
            have k2 := kB.trans (hb8.mono hz)
            have t2c : w2.cell? ⟨gt, 2, none⟩ = some (.map (some gm)) := t2.cell 2
            clear hb9 hb8
            have Ht2 := Lib.hid t2; clear t2; have Ho2 := Lib.hid o2; clear o2; have Hm2 := Lib.hid m2; clear m2; have Hf2 := Lib.hid f2; clear f2; have Hr2 := Lib.hid r2; clear r2
            go_wp2_with fail
            refine Go.Canon.tr_end (keep_blk HtBd.out Ht2.out ⟨rfl, rfl⟩) (Go.Canon.tr_one ?_)
            simp only [List.getD_cons_zero, List.getD_cons_succ]
            go_wp2_with fail
            refine Go.Canon.tr_end (keep_blk HtBd.out Ht2.out ⟨rfl, rfl⟩) (Go.Canon.tr_seg ?_)
            simp only [List.map_cons, List.map_nil, List.getD_cons_zero, List.getD_cons_succ]
            go_wp2_with fail
            refine Go.Canon.tr_to (Go.Canon.tr_one ?_)
            simp only [List.getD_cons_zero, List.getD_cons_succ]
            refine wpList_put _ rfl (.tmp 37) (.tmp 40) (.tmp 41) 118 rfl 39 3 keyE Tryz.underlying118 gm m rfl Hm2.out ed rfl Hhok.out c rfl ?_
            intro w3 m3 g3 hs3
            have t3 := Ht2.out.kept_map Hm2.out g3
            have o3 := own_kept_map Ho2.out Hm2.out g3
            have f3 := Hf2.out.kept_map Hm2.out g3
            have r3 := Hr2.out.kept_map Hm2.out g3
            have k3 := k2.grown g3 k2.size (fun q hq => by injection hq with hq; omega)
            have t3c : w3.cell? ⟨gt, 3, none⟩ = some (.slice (some ⟨gf, 0, none⟩) n n) := t3.cell 3
            clear g3 hs3
            have Ht3 := Lib.hid t3; clear t3; have Ho3 := Lib.hid o3; clear o3; have Hm3 := Lib.hid m3; clear m3; have Hf3 := Lib.hid f3; clear f3; have Hr3 := Lib.hid r3; clear r3
            go_wp2_with fail
            refine Go.Canon.tr_end (keep_blk HtBd.out Ht3.out ⟨rfl, rfl⟩) (Go.Canon.tr_fin (by rfl) (List.forall_mem_cons.2 ⟨.inl ⟨_, rfl, rfl, by rw [World.cell?_drew, t1]; rfl⟩, fun _ h => by cases h⟩) ?_)
            have f9 := Hf3.out.frozen
            obtain ⟨v9, d9⟩ : ∃ v9, w3.cell? ⟨gf, u, none⟩ = some v9 := by rw [Hf3.out.cell]; exact ⟨_, List.getElem?_eq_getElem (by rw [fvals_len, HhF.out.1]; exact hun)⟩
            have t3d := Ht3.out.drew
            have o3d := Ho3.out.drew
            have Ht3d := Lib.hid t3d; clear t3d; have Ho3d := Lib.hid o3d; clear o3d
            go_wp2_with fail
            refine Go.Canon.wp_region_tree [3] (· = gt) (.seg [0,4,5,7] (.alt 1 (.seg [2,3] (.alt 6 (.seg [8] (.alt 9 .fin .no)) .no)) (.alt 6 (.alt 1 (.seg [2,3,8] (.alt 9 .fin .no)) .no) .no))) mixed (by kernel_rfl) ?_
            refine Go.Canon.tr_seg ?_
            simp only [List.map_cons, List.map_nil, List.getD_cons_zero, List.getD_cons_succ]
            go_wp2_with fail
            refine Go.Canon.tr_to (Go.Canon.tr_alt ?_ (Go.Canon.tr_alt ?_ Go.Canon.tr_no))
            · simp only [List.getD_cons_zero, List.getD_cons_succ]
              go_wp2_with fail
              refine Go.Canon.tr_end (keep_blk Ht3d.out Ht3d.out ⟨rfl, rfl⟩) (Go.Canon.tr_seg ?_)
              simp only [List.map_cons, List.map_nil, List.getD_cons_zero, List.getD_cons_succ]
              go_wp2_with fail
              refine Go.Canon.tr_to (Go.Canon.tr_one ?_)
              simp only [List.getD_cons_zero, List.getD_cons_succ]
              go_wp2_with fail
              refine (Hhvert.out _ ⟨Ht3d.out, Hhsl9.out _ Ho3d.out, hT, Ht3.out.lt, Nat.le_refl _⟩).mono ?_
              rintro e w4 ⟨rfl, rfl⟩
              go_wp2_with fail
              refine Go.Canon.tr_end (keep_blk Ht3d.out Ht3d.out ⟨rfl, rfl⟩) (Go.Canon.tr_seg ?_)
              simp only [List.map_cons, List.map_nil, List.getD_cons_zero, List.getD_cons_succ]
              go_wp2_with fail
              refine Go.Canon.tr_to (Go.Canon.tr_one ?_)
              simp only [List.getD_cons_zero, List.getD_cons_succ]
              go_wp2_with fail
              refine Go.Canon.tr_end (keep_blk Ht3d.out (Ht3d.out.far hgne _) ⟨rfl, rfl⟩) (Go.Canon.tr_fin (by rfl) (List.forall_mem_cons.2 ⟨.inl ⟨_, rfl, rfl, by rw [World.cell?_drew, t3c]; rfl⟩, fun _ h => by cases h⟩) ?_)
              go_wp2
              refine ⟨⟨c, Words.put m ed c, F.set u c, by omega, by simp, ?_, ?_, ?_, ?_, HhFirst.out, ?_, ?_, ?_⟩, by simp [intOf]⟩
              · exact Ht3.out.far (p := ⟨gf, u, none⟩) hgne _
              · exact own_far Ho3.out Hf3.out (by decide)
              · exact (Hm3.out.far (p := ⟨gf, u, none⟩) hgne2 _).drew
              · have := Hf3.out.set u (.int .i64 (c : Int)); rw [fvals_set] at this; exact this
              · intro e he; rw [Hhstep.out, ← Hhm.out e he, Words.look_put]
              · exact Hr3.out.far (p := ⟨gf, u, none⟩) (by show _ ≠ gf; omega) _
              · exact (k3.setCell (p := ⟨gf, u, none⟩) (by show _ ≤ gf; omega) _).drew
            · simp only [List.getD_cons_zero, List.getD_cons_succ]
              go_wp2_with fail
              refine (Hhvert.out _ ⟨Ht3d.out, Hhsl9.out _ Ho3d.out, hT, Ht3.out.lt, Nat.le_refl _⟩).mono ?_
              rintro e w4 ⟨rfl, rfl⟩
              go_wp2_with fail
              refine Go.Canon.tr_end (keep_blk Ht3d.out Ht3d.out ⟨rfl, rfl⟩) (Go.Canon.tr_one ?_)
              simp only [List.getD_cons_zero, List.getD_cons_succ]
              go_wp2_with fail
              refine Go.Canon.tr_end (keep_blk Ht3d.out Ht3d.out ⟨rfl, rfl⟩) (Go.Canon.tr_seg ?_)
              simp only [List.map_cons, List.map_nil, List.getD_cons_zero, List.getD_cons_succ]
              go_wp2_with fail
              refine Go.Canon.tr_to (Go.Canon.tr_one ?_)
              simp only [List.getD_cons_zero, List.getD_cons_succ]
              go_wp2_with fail
              refine Go.Canon.tr_end (keep_blk Ht3d.out (Ht3d.out.far hgne _) ⟨rfl, rfl⟩) (Go.Canon.tr_fin (by rfl) (List.forall_mem_cons.2 ⟨.inl ⟨_, rfl, rfl, by rw [World.cell?_drew, t3c]; rfl⟩, fun _ h => by cases h⟩) ?_)
              go_wp2
              refine ⟨⟨c, Words.put m ed c, F.set u c, by omega, by simp, ?_, ?_, ?_, ?_, HhFirst.out, ?_, ?_, ?_⟩, by simp [intOf]⟩
              · exact Ht3.out.far (p := ⟨gf, u, none⟩) hgne _
              · exact own_far Ho3.out Hf3.out (by decide)
              · exact (Hm3.out.far (p := ⟨gf, u, none⟩) hgne2 _).drew
              · have := Hf3.out.set u (.int .i64 (c : Int)); rw [fvals_set] at this; exact this
              · intro e he; rw [Hhstep.out, ← Hhm.out e he, Words.look_put]
              · exact Hr3.out.far (p := ⟨gf, u, none⟩) (by show _ ≠ gf; omega) _
              · exact (k3.setCell (p := ⟨gf, u, none⟩) (by show _ ≤ gf; omega) _).drew
end Go.Proofs.YtpbdcppaiafbgaaGreat
