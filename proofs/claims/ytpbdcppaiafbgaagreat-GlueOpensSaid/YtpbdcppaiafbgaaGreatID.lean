/- Walks: cutter.sectors. -/
import Derived.Deep.Cut
import Derived.Maps.OwnIn
import Derived.Test.YtpbdcppaiafbgaaGreatIA
import Derived.Test.YtpbdcppaiafbgaaGreatGA
set_option maxRecDepth 100000
set_option maxHeartbeats 8000000
namespace Go.Proofs.YtpbdcppaiafbgaaGreat
open Go Go.RowKit Go.Words Go.Mesh
attribute [local go_sem] Oper.semAt_some
theorem tab_next {w:World} {B:Nat} {tv:Value} {N:Int} {T:List T3} (h:Tab w B tv N T) {c:Nat} (hc:c<3 * T.length):Calls Tryz.prog 78 #[tv,.int .i64 (c:Int)] w fun e w'=>e=.returned (.int .i64 (nx c:Int))/\w'=w:=by
 obtain ⟨g,vt,d,f,m,F,a,b,_⟩:=h
 rw [a]
 have:=next_calls b (c:Int)
 rw [tNext_at hc] at this
 exact this
theorem tab_prev {w:World} {B:Nat} {tv:Value} {N:Int} {T:List T3} (h:Tab w B tv N T) {c:Nat} (hc:c<3 * T.length):Calls Tryz.prog 79 #[tv,.int .i64 (c:Int)] w fun e w'=>e=.returned (.int .i64 (pv c:Int))/\w'=w:=by
 obtain ⟨g,vt,d,f,m,F,a,b,_⟩:=h
 rw [a]
 have:=prev_calls b (c:Int)
 rw [tPrev_at hc] at this
 exact this
theorem tab_vertex {w:World} {B:Nat} {tv:Value} {N:Int} {T:List T3} (h:Tab w B tv N T) {c:Nat} (hc:c<3 * T.length):Calls Tryz.prog 77 #[tv,.int .i64 (c:Int)] w fun e w'=>e=.returned (.int .i64 (Mesh.vt T c))/\w'=w:=by
 obtain ⟨g,vt,d,f,m,F,a,b,_⟩:=h
 rw [a]
 have:=vertex_calls b (c:Int)
 rw [tVert_at hc] at this
 exact this
theorem wpIn_cut {F:Fence} {n:Nat} {P:Program} {s:Code} {K:Act->World->Prop} {Q':Exit->Act->World->Prop} {a:Act} {w:World} (R:Act->World->Prop)
  (first:s.wpIn F n P (fun e b c=>e=.normal/\R b c) a w) (rest:∀ b c,R b c->K b c):s.wpIn F n P (Exit.then K Q') a w :=
 wpIn_mono first (by rintro e b c ⟨rfl,h⟩;exact rest b c h)
def pBv (T:List T3) (C:List (Int × Int)) (v:Int) (c:Nat):Bool:=decide (nm (v,vt T (nx c))∈C)
theorem splL_congr {p q:Nat->Bool}:∀ {l:List Nat},(∀ c∈l,p c=q c)->splL p l=splL q l:=fun {l}=>by
 refine gind (motive:=fun l=>(∀ c∈l,p c=q c)->splL p l=splL q l) (fun _=>rfl) (fun l c ih h=>?_) l
 rw [splL_snoc,splL_snoc,ih fun x hx=>h x (List.mem_append_left _ hx)]
 unfold splS
 rw [h c (by simp)]
theorem pBv_ring {T:List T3} {C:List (Int × Int)} {v:Int} {l:List Nat} {inner:Bool} (r:Ring T v l inner):∀ c∈l,pBv T C v c=pB T C c:=fun c hc=>by
 unfold pBv pB
 exact decide_eq_decide.2 (by unfold ctB;rw [((r.mem c).1 hc).2])
def opn (T:List T3) (C:List (Int × Int)) (v:Int):List Nat->Bool
 | []=>false
 | c :: _=>(opp T (pv c)).isSome && !pBv T C v c
theorem opn_ring {T:List T3} {C:List (Int × Int)} {v:Int} {l:List Nat} {inner:Bool} (r:Ring T v l inner):opn T C v l=openL T C l inner:=by
 have b:=r.ne
 have a:=r.head b
 have g:=pBv_ring (C:=C) r
 cases l with
 | nil=>simp at b
 | cons c l =>
  have f:=g c (List.mem_cons_self ..)
  simp only [List.getElem_cons_zero] at a
  show ((opp T (pv c)).isSome && !pBv T C v c)=(inner && !pB T C c)
  rw [f]
  congr 1
  unfold bef at a
  rw [Option.map_eq_none_iff] at a
  cases e:opp T (pv c) with
  | none=>rw [a.1 e];rfl
  | some d =>
   cases inner with
   | true=>rfl
   | false=>rw [a.2 rfl] at e;cases e
theorem splL_lens (p:Nat->Bool) (l:List Nat):∀ r∈(splL p l).1++[(splL p l).2],r.length<=l.length:=by
 refine gind (motive:=fun l=>∀ r∈(splL p l).1++[(splL p l).2],r.length<=l.length) (fun r hr=>?_) (fun l c ih r hr=>?_) l
 ·have e:(splL p []).1++[(splL p []).2]=[[]]:=rfl
  rw [e] at hr
  rw [List.mem_singleton.1 hr];exact zl
 ·rw [splL_snoc] at hr
  have a:(splL p l).2.length<=l.length:=ih _ (by simp)
  rw [List.length_append]
  unfold splS at hr
  split at hr
  ·rcases List.mem_append.1 hr with h | h
   ·have:=ih r (List.mem_append_left _ h);omega
   ·rw [List.mem_singleton.1 h,List.length_append];omega
  ·split at hr
   ·rcases List.mem_append.1 hr with h | h
    ·have:=ih r h;omega
    ·rw [List.mem_singleton.1 h];simp
   ·rcases List.mem_append.1 hr with h | h
    ·have:=ih r (List.mem_append_left _ h);omega
    ·rw [List.mem_singleton.1 h,List.length_append];omega
theorem splL_fewo (p:Nat->Bool) (l:List Nat):(splL p l).1.length<=l.length:=by
 refine gind (motive:=fun l=>(splL p l).1.length<=l.length) zl (fun l c ih=>?_) l
 rw [splL_snoc,List.length_append]
 unfold splS
 split
 ·simp;omega
 ·split <;> simp <;> omega
theorem infoRowS:(Tryz.prog.info? 28).map (fun i=>(i.zero,i.size,i.bytes))=some (some (.slice none 0 0),1,24):=by kernel_rfl
theorem splL_few (p:Nat->Bool) (l:List Nat):(splL p l).2.length<=l.length:=by
 refine gind (motive:=fun l=>(splL p l).2.length<=l.length) zl (fun l c ih=>?_) l
 rw [splL_snoc,List.length_append]
 unfold splS
 split
 ·simp;omega
 ·split <;> simp;omega
abbrev SecI (w:World) (gb g:Nat) (tg:Option Addr) (v:Int) (T:List T3) (C:List (Int × Int)) (pre:List Nat) (W:World):Prop :=
 SecJ w gb g tg v (splL (pBv T C v) pre).1 (splL (pBv T C v) pre).2 (opn T C v pre) W
theorem secI_of {w:World} {gb g:Nat} {tg:Option Addr} {v:Int} {T:List T3} {C:List (Int × Int)} {l:List Nat} {out:List (List Nat)} {row:List Nat} {op:Bool} {W:World} (h1:splL (pBv T C v) l=(out,row)) (h2:opn T C v l=op) (h:SecJ w gb g tg v out row op W):SecI w gb g tg v T C l W:=by
 unfold SecI;rw [h1,h2];exact h
theorem secI_own (w:World) (gb g:Nat) (tg:Option Addr) (v:Int) (T:List T3) (C:List (Int × Int)) {B:Nat} (hw:gb<=w.heap.size) (hB:gb<=B):OwnFrom B (fun (pre:List (Cor T)) W=>SecI w gb g tg v T C (pre.map (·.1)) W) :=
 fun _ _ _ _ hs hg hr=>SecJ.non hw hB hs hg hr
theorem sectors_calls {w:World} {B g bc be:Nat} {tv sv wv:Value} {N n:Int} {T X:List T3} {L:List (Int × Int)} {O:List Int} (h:Ctr w B g bc be tv N T L n sv wv X O) (hs:Surf N T) (v:Int) (hv:0<=v/\v<N) :
  Calls Tryz.prog 107 #[.pointer (some ⟨g,0,none⟩),.int .i64 v] w fun e z=>(∃ r S,e=.returned r/\Secs T (L.map nm) (hdV T (L.map nm) v) S/\Fresh z w.heap.size r S)/\Below w.heap.size w z:=by
 refine (callsIn_wide (n:=6)).1 ?_
 refine callsIn_of_wp_marks Tryz.func107 rfl trivial ?_ rfl
 simp only [Tryz.ntmps107,List.size_toArray,List.length_cons,List.length_nil,Nat.reduceAdd,Nat.reduceSub,Array.replicate_succ,Array.replicate_zero,List.push_toArray,List.append_toArray,List.nil_append,List.cons_append]
 have jb:=h.blk.lt
 have c0:w.cell? ⟨g,0,none⟩=some tv:=h.blk.cell 0
 have jl:=h.tab
 obtain ⟨s,lg⟩:∃ s,tv=.pointer s:=by
  obtain ⟨g9,_,_,_,_,_,G,_⟩:=h.tab
  exact ⟨_,G⟩
 subst lg
 obtain ⟨d,b8⟩:∃ d,d=w.heap.size:=⟨_,rfl⟩
 obtain ⟨wa,br⟩:∃ wa,wa=((((w.alloc (.cells #[.pointer (some ⟨g,0,none⟩)] 102)).alloc (.cells #[.int .i64 v] 3)).alloc (.cells #[.slice none 0 0] 78)).alloc (.cells #[.slice none 0 0] 28)).alloc (.cells #[.bool false] 4):=⟨_,rfl⟩
 obtain ⟨Hh,ev⟩:=zz2 h jl;clear h jl
 gi_wp2_with fail
 rw [<- b8,<- br]
 have gj:Below d w wa:=by
  rw [br,b8];exact (((((Below.refl _ w).alloc zl _).alloc (by simp) _).alloc (by simp;omega) _).alloc (by simp;omega) _).alloc (by simp;omega) _
 have b0:Boxed wa d 102 (.pointer (some ⟨g,0,none⟩)):=by rw [br];exact ((((boxed_new' b8 _ _).alloc _).alloc _).alloc _).alloc _
 have b1:Boxed wa (d+1) 3 (.int .i64 v):=by rw [br];exact (((boxed_new' (by simp [b8]) _ _).alloc _).alloc _).alloc _
 have b2:Boxed wa (d+1+1) 78 (.slice none 0 0):=by rw [br];exact ((boxed_new' (by simp [b8]) _ _).alloc _).alloc _
 have b3:Boxed wa (d+1+1+1) 28 (.slice none 0 0):=by rw [br];exact (boxed_new' (by simp [b8]) _ _).alloc _
 have b4:Boxed wa (d+1+1+1+1) 4 (.bool false):=by rw [br];exact boxed_new' (by simp [b8]) _ _
 have e7:wa.heap.size=d+5:=by rw [br];simp [b8]
 clear br
 have d0:=b0.cell
 have d1:=b1.cell
 have gx:g<d:=by omega
 have l6:wa.cell? ⟨g,0,none⟩=some (.pointer s):=(gj.cell (p:=⟨g,0,none⟩) gx).trans c0
 obtain ⟨bt,fw,ie,ig,ih,ii,ij⟩:=zz7 b8 gj b0 b1 b2 b3 b4;clear b8 gj b0 b1 b2 b3 b4
 refine Canon.Wide.region_tree Canon.wide_wide [4] (fun b=>b<d+5) (.seg [0,4] (.alt 1 (.seg [2,3] (.alt 5 .fin .no)) .no)) (by rfl) mixed (by kernel_rfl) ?_
 refine Canon.tr_seg ?_
 simp only [zmC,zmN,zgZ,zgS]
 go_wp2_with fail
 refine Canon.tr_to (Canon.tr_one ?_)
 simp only [zgZ,zgS]
 go_wp2_with fail
 refine Canon.tr_end (fun _ _=>rfl) (Canon.tr_seg ?_)
 simp only [zmC,zmN,zgZ,zgS]
 go_wp2_with fail
 refine Canon.tr_to (Canon.tr_one ?_)
 simp only [zgZ,zgS]
 go_wp2_with fail
 refine (around_calls _ _ _ rfl).mono ?_
 rintro e w1 ⟨rfl,rfl⟩
 go_wp2_with fail
 have gk:Below d w ((wa.alloc (.cells #[.pointer s] 46)).alloc (.cells #[.int .i64 v] 3)).drew:=(((fw.out.alloc (by omega) _).alloc (by simp;omega) _).drew)
 have iu:=(ie.out.alloc (.cells #[.pointer s] 46)).alloc (.cells #[.int .i64 v] 3)
 have iv:=(ig.out.alloc (.cells #[.pointer s] 46)).alloc (.cells #[.int .i64 v] 3)
 have iw:=(ih.out.alloc (.cells #[.pointer s] 46)).alloc (.cells #[.int .i64 v] 3)
 have ix:=(ii.out.alloc (.cells #[.pointer s] 46)).alloc (.cells #[.int .i64 v] 3)
 have iy:=(ij.out.alloc (.cells #[.pointer s] 46)).alloc (.cells #[.int .i64 v] 3)
 have iz:Boxed ((wa.alloc (.cells #[.pointer s] 46)).alloc (.cells #[.int .i64 v] 3)) (d+5) 46 (.pointer s):=(boxed_new' e7.symm _ _).alloc _
 have j1:Boxed ((wa.alloc (.cells #[.pointer s] 46)).alloc (.cells #[.int .i64 v] 3)) (d+5+1) 3 (.int .i64 v):=boxed_new' (by rw [World.size_alloc,e7]) _ _
 have hh:((wa.alloc (.cells #[.pointer s] 46)).alloc (.cells #[.int .i64 v] 3)).drew.heap.size=d+7:=by simp [e7]
 have jd:Canon.KeepU (fun b=>b<d+5) wa.drew ((wa.alloc (.cells #[.pointer s] 46)).alloc (.cells #[.int .i64 v] 3)).drew:=fun b hb=>(Below.heap_alloc (wa.alloc (.cells #[.pointer s] 46)) (.cells #[.int .i64 v] 3) b (by simp;omega)).trans (Below.heap_alloc wa (.cells #[.pointer s] 46) b (by omega))
 refine Canon.tr_end jd (Canon.tr_fin (by rfl) (zF ⟨.inl ⟨_,rfl,(by show d+1<d+5;omega),by rw [World.cell?_drew,d1];rfl⟩,fun _ h=>by cases h⟩) ?_)
 obtain ⟨w0,bq⟩:∃ w0,w0=((wa.alloc (.cells #[.pointer s] 46)).alloc (.cells #[.int .i64 v] 3)).drew:=⟨_,rfl⟩
 rw [<- bq] at gk hh ⊢
 have f0:Boxed w0 d 102 (.pointer (some ⟨g,0,none⟩)):=by rw [bq];exact iu
 have f1:Boxed w0 (d+1) 3 (.int .i64 v):=by rw [bq];exact iv
 have f2:Boxed w0 (d+1+1) 78 (.slice none 0 0):=by rw [bq];exact iw
 have f3:Boxed w0 (d+1+1+1) 28 (.slice none 0 0):=by rw [bq];exact ix
 have f4:Boxed w0 (d+1+1+1+1) 4 (.bool false):=by rw [bq];exact iy
 have f5:Boxed w0 (d+5) 46 (.pointer s):=by rw [bq];exact iz
 have f6:Boxed w0 (d+5+1) 3 (.int .i64 v):=by rw [bq];exact j1
 clear iu iv iw ix iy iz j1 bq jd d0 d1 l6 c0 e7 fw ie ig ih ii ij
 have ni:=Hh.out.le
 have l9:=ev.out.le
 have lc:d<=w.heap.size:=by rw [bt.out];exact zl
 have gl:B<=d:=by rw [bt.out];exact l9
 have nl:w.heap.size<=d:=by rw [bt.out];exact zl
 have j4:=ev.out.below (gk.mono gl) zl
 have ld:d+7<=w0.heap.size:=by omega
 have j2:SecI w d g s v T (L.map nm) [] w0:=⟨f0,f1,f5,⟨_,[],_,f2,World.ownsRow_nil _ _ _ _,f3,⟨rfl,fun i h1 h2=>by simp at h1;subst h1;exact World.ownsRow_nil _ _ _ _,fun i j h1 h2 hne=>by simp at h1 h2;omega⟩⟩,f4,gk,ld⟩
 clear hh
 obtain ⟨js,jx,n0,n1,n2,n3,n4⟩:=zz7 j2 j4 f0 f1 f2 f3 f4;clear j2 j4 f0 f1 f2 f3 f4
 gi_wp2_with fail
 refine wpIn_rangeFunc_ownF rfl (by decide) (gf:=124) (lb:=#[.pointer (some ⟨d+5,0,none⟩),.pointer (some ⟨d+5+1,0,none⟩)]) rfl trivial (enters_of Tryz.func124 (by kernel_rfl) rfl)
  (around_stopsN 5 (by decide) (d+5) (d+5+1) d B (.pointer s) N T v hs gl w0 (by omega) (by omega) (by omega) f5.cell f6.cell (.inl jx.out)) keepB_t (keepB_b (by omega) (by omega)) (Below.refl _ _) (fun _=>rfl)
  (fun F W=>SecI w d g s v T (L.map nm) (F.map (·.1)) W)
  (fun _ _ _=>False)
  ?hI ?hIx ?h0
  (fun x=>{ tmps:=#[.pointer (some ⟨g,0,none⟩),.int .i64 v,.pointer (some ⟨d,0,none⟩),.pointer (some ⟨d+1,0,none⟩),.slice none 0 0,.pointer (some ⟨d+1+1,0,none⟩),.pointer (some ⟨d+1+1+1,0,none⟩),.pointer (some ⟨d+1+1+1+1,0,none⟩),.int .i64 (x.1:Int),undef,undef,.pointer (some ⟨g,0,none⟩),.pointer (some ⟨g,0,none⟩),.pointer (some ⟨g,0,none⟩),.pointer s,.int .i64 v,.func (.func 124) #[] #[.pointer (some ⟨d+5,0,none⟩),.pointer (some ⟨d+5+1,0,none⟩)],.int .i64 (x.1:Int),undef,undef,undef,undef,undef,undef,undef,undef,undef,undef,undef,undef,undef,undef,undef,undef,undef,undef,undef,undef,undef,undef,undef,undef,undef,undef,undef,undef,undef,undef,undef,undef,undef,undef,undef,undef,undef,undef,undef,undef,undef,undef,undef,undef,undef,undef,undef,undef,undef,undef,undef,undef,undef,undef,undef,undef,undef,undef,undef,undef,undef,undef,undef,undef,undef,undef,undef,undef,undef,undef,undef,undef,undef,undef,undef,undef,undef,undef,undef,undef,undef,undef,undef],defers:=[] }) ?assign ?body ?done ?stop
 case hI=>exact secI_own w d g s v T (L.map nm) lc (by omega)
 case hIx=>exact fun _ _ _ _ _ hs _ _=>hs
 case h0=>exact js.out
 case assign =>
  intro l x W K hK
  gi_wp2
  exact hK
 case body =>
  intro l F x W hI hN
  have hT:T≠[]:=fun G=>by have h8:=x.2;have h7:=congrArg List.length G;simp only [List.length_nil] at h7;omega
  have bw:Tab W B (.pointer s) N T:=ev.out.below (hI.bl.mono gl) zl
  have nk:=hI.sz
  have la:g<W.heap.size:=by omega
  have d7:W.cell? ⟨g,0,none⟩=some (.pointer s):=(hI.bl.cell (p:=⟨g,0,none⟩) gx).trans (Hh.out.blk.cell 0)
  have d0:=hI.b0.cell
  have d1:=hI.b1.cell
  have jh:=fun wz (hz:Below W.heap.size W wz)=>tab_next (bw.below hz bw.le) (c:=x.1) x.2
  have hl:=fun wz (hz:Below W.heap.size W wz)=>tab_vertex (bw.below hz bw.le) (c:=nx x.1) (nx_lt x.2)
  have cv:=fun wz=>named_calls (v,vt T (nx x.1)) wz
  change ∀ wz,Calls _ _ #[.agg #[.int .i64 v,.int .i64 (vt T (nx x.1))]] wz (fun r z=>r=.returned (.agg #[.int .i64 (nm (v,vt T (nx x.1))).1,.int .i64 (nm (v,vt T (nx x.1))).2])/\_) at cv
  obtain ⟨u,hu⟩:∃ u,vt T (nx x.1)=u:=⟨_,rfl⟩
  rw [hu] at hl cv
  obtain ⟨q1,ha⟩:∃ q,(nm (v,u)).1=q:=⟨_,rfl⟩
  obtain ⟨q2,hd⟩:∃ q,(nm (v,u)).2=q:=⟨_,rfl⟩
  rw [ha,hd] at cv
  obtain ⟨ec,b6,a4,I,fe,io,gc,gd⟩:=zz8 hI bw jh hl cv hu ha hd;clear hI bw jh hl cv hu ha hd
  gi_wp2_with fail
  refine wpIn_cut (fun a' z=>∃ b,a'={ tmps:=#[.pointer (some ⟨g,0,none⟩),.int .i64 v,.pointer (some ⟨d,0,none⟩),.pointer (some ⟨d+1,0,none⟩),.slice none 0 0,.pointer (some ⟨d+1+1,0,none⟩),.pointer (some ⟨d+1+1+1,0,none⟩),.pointer (some ⟨d+1+1+1+1,0,none⟩),.int .i64 (x.1:Int),.pointer (some ⟨b,0,none⟩),undef,.pointer (some ⟨g,0,none⟩),.pointer (some ⟨g,0,none⟩),.pointer (some ⟨g,0,none⟩),.pointer s,.int .i64 v,.func (.func 124) #[] #[.pointer (some ⟨d+5,0,none⟩),.pointer (some ⟨d+5+1,0,none⟩)],.int .i64 (x.1:Int),.int .i64 v,.pointer (some ⟨g,0,none⟩),.pointer (some ⟨g,0,none⟩),.pointer (some ⟨g,0,none⟩),.pointer s,.pointer (some ⟨g,0,none⟩),.pointer (some ⟨g,0,none⟩),.pointer (some ⟨g,0,none⟩),.pointer s,.int .i64 (x.1:Int),.int .i64 (nx x.1:Int),.int .i64 u,.agg #[.int .i64 v,.int .i64 u],.agg #[.int .i64 q1,.int .i64 q2],undef,undef,undef,undef,undef,undef,undef,undef,undef,undef,undef,undef,undef,undef,undef,undef,undef,undef,undef,undef,undef,undef,undef,undef,undef,undef,undef,undef,undef,undef,undef,undef,undef,undef,undef,undef,undef,undef,undef,undef,undef,undef,undef,undef,undef,undef,undef,undef,undef,undef,undef,undef,undef,undef,undef,undef,undef,undef,undef,undef,undef,undef,undef,undef,undef,undef,undef,undef,undef],defers:=[] }/\Bk z b 39 [.int .i64 q1,.int .i64 q2]/\W.heap.size<=b/\Below W.heap.size W z) ?first6 ?rest6
  case first6 =>
    refine (Canon.wide_round l).region_tree [0,1,4,5,8] (fun b=>b<W.heap.size) (.seg [0,1,5,9] (.alt 2 (.seg [3,4] (.alt 6 (.seg [7,8] (.alt 10 (.alt 11 (.seg [12] (.alt 13 (.alt 14 (.alt 15 .fin .no) .no) (.alt 14 (.alt 13 (.alt 15 .fin .no) .no) .no))) (.alt 14 (.alt 11 (.seg [12] (.alt 13 (.alt 15 .fin .no) .no)) .no) .no)) (.alt 14 (.alt 10 (.alt 11 (.seg [12] (.alt 13 (.alt 15 .fin .no) .no)) .no) .no) .no))) (.alt 14 (.alt 6 (.seg [7,8] (.alt 10 (.alt 11 (.seg [12] (.alt 13 (.alt 15 .fin .no) .no)) .no) .no)) .no) .no))) (.alt 6 (.seg [7,8] (.alt 2 (.seg [3,4] (.alt 10 (.alt 11 (.seg [12] (.alt 13 (.alt 14 (.alt 15 .fin .no) .no) (.alt 14 (.alt 13 (.alt 15 .fin .no) .no) .no))) (.alt 14 (.alt 11 (.seg [12] (.alt 13 (.alt 15 .fin .no) .no)) .no) .no)) (.alt 14 (.alt 10 (.alt 11 (.seg [12] (.alt 13 (.alt 15 .fin .no) .no)) .no) .no) .no))) (.alt 10 (.alt 2 (.seg [3,4] (.alt 11 (.seg [12] (.alt 13 (.alt 14 (.alt 15 .fin .no) .no) (.alt 14 (.alt 13 (.alt 15 .fin .no) .no) .no))) (.alt 14 (.alt 11 (.seg [12] (.alt 13 (.alt 15 .fin .no) .no)) .no) .no))) (.alt 14 (.alt 2 (.seg [3,4] (.alt 11 (.seg [12] (.alt 13 (.alt 15 .fin .no) .no)) .no)) .no) .no)) (.alt 14 (.alt 2 (.seg [3,4] (.alt 10 (.alt 11 (.seg [12] (.alt 13 (.alt 15 .fin .no) .no)) .no) .no)) (.alt 10 (.alt 2 (.seg [3,4] (.alt 11 (.seg [12] (.alt 13 (.alt 15 .fin .no) .no)) .no)) .no) .no)) .no)))) (.alt 14 (.alt 2 (.seg [3,4] (.alt 6 (.seg [7,8] (.alt 10 (.alt 11 (.seg [12] (.alt 13 (.alt 15 .fin .no) .no)) .no) .no)) .no)) (.alt 6 (.seg [7,8] (.alt 2 (.seg [3,4] (.alt 10 (.alt 11 (.seg [12] (.alt 13 (.alt 15 .fin .no) .no)) .no) .no)) (.alt 10 (.alt 2 (.seg [3,4] (.alt 11 (.seg [12] (.alt 13 (.alt 15 .fin .no) .no)) .no)) .no) .no))) .no)) .no)))) (by rfl) mixed (by kernel_rfl) ?_
    refine Canon.tr_seg ?_
    simp only [zmC,zmN,zgZ,zgS]
    go_wp2_with fail
    refine Canon.tr_to (Canon.tr_alt ?zs1 (Canon.tr_alt ?zs2 (Canon.tr_one ?zs3)))
    case' zs1 =>
     simp only [zgZ,zgS]
     go_wp2_with fail
     refine Canon.tr_end (keep_below (below_undrew ((Below.refl W.heap.size W).drew))) (Canon.tr_seg ?_)
     simp only [zmC,zmN,zgZ,zgS]
     go_wp2_with fail
     refine Canon.tr_to (Canon.tr_alt ?zs4 (Canon.tr_one ?zs5))
     case' zs4 =>
      simp only [zgZ,zgS]
      go_wp2_with fail
      refine Canon.tr_end (keep_below (below_undrew ((Below.refl W.heap.size W).drew))) (Canon.tr_seg ?_)
      simp only [zmC,zmN,zgZ,zgS]
      go_wp2_with fail
      refine Canon.tr_to (Canon.tr_alt ?zs6 (Canon.tr_one ?zs7))
      case' zs6 =>
       simp only [zgZ,zgS]
       go_wp2_with fail
       refine (a4.out _ ((Below.refl W.heap.size W).drew)).mono ?_
       rintro e z ⟨rfl,rfl⟩
       go_wp2_with fail
       refine Canon.tr_end (keep_below (below_undrew ((Below.refl W.heap.size W).drew))) (Canon.tr_alt ?zs8 (Canon.tr_one ?zs9))
       case' zs8 =>
        simp only [zgZ,zgS]
        go_wp2_with fail
        refine (I.out _ ((Below.refl W.heap.size W).drew)).mono ?_
        rintro e z ⟨rfl,rfl⟩
        go_wp2_with fail
        refine Canon.tr_end (keep_below (below_undrew ((Below.refl W.heap.size W).drew))) (Canon.tr_seg ?_)
        simp only [zmC,zmN,zgZ,zgS]
        go_wp2_with fail
        refine Canon.tr_to (Canon.tr_alt ?zs10 (Canon.tr_one ?zs11))
        case' zs10 =>
         simp only [zgZ,zgS]
        case' zs11 =>
         simp only [zgZ,zgS]
         go_wp2_with fail
         refine Canon.tr_end (keep_below (below_undrew (((Below.refl W.heap.size W).alloc zl (.cells #[.int .i64 0,.int .i64 0] 39)).drew))) (Canon.tr_one ?_)
       case' zs9 =>
        simp only [zgZ,zgS]
        go_wp2_with fail
        refine Canon.tr_end (keep_below (below_undrew (((Below.refl W.heap.size W).alloc zl (.cells #[.int .i64 0,.int .i64 0] 39)).drew))) (Canon.tr_one ?_)
        simp only [zgZ,zgS]
        go_wp2_with fail
        refine (I.out _ (((Below.refl W.heap.size W).alloc zl (.cells #[.int .i64 0,.int .i64 0] 39)).drew)).mono ?_
        rintro e z ⟨rfl,rfl⟩
        go_wp2_with fail
        refine Canon.tr_end (keep_below (below_undrew (((Below.refl W.heap.size W).alloc zl (.cells #[.int .i64 0,.int .i64 0] 39)).drew))) (Canon.tr_seg ?_)
        simp only [zmC,zmN,zgZ,zgS]
        go_wp2_with fail
        refine Canon.tr_to (Canon.tr_one ?_)
      case' zs7 =>
       simp only [zgZ,zgS]
       go_wp2_with fail
       refine Canon.tr_end (keep_below (below_undrew (((Below.refl W.heap.size W).alloc zl (.cells #[.int .i64 0,.int .i64 0] 39)).drew))) (Canon.tr_one ?_)
       simp only [zgZ,zgS]
       go_wp2_with fail
       refine (a4.out _ (((Below.refl W.heap.size W).alloc zl (.cells #[.int .i64 0,.int .i64 0] 39)).drew)).mono ?_
       rintro e z ⟨rfl,rfl⟩
       go_wp2_with fail
       refine Canon.tr_end (keep_below (below_undrew (((Below.refl W.heap.size W).alloc zl (.cells #[.int .i64 0,.int .i64 0] 39)).drew))) (Canon.tr_one ?_)
       simp only [zgZ,zgS]
       go_wp2_with fail
       refine (I.out _ (((Below.refl W.heap.size W).alloc zl (.cells #[.int .i64 0,.int .i64 0] 39)).drew)).mono ?_
       rintro e z ⟨rfl,rfl⟩
       go_wp2_with fail
       refine Canon.tr_end (keep_below (below_undrew (((Below.refl W.heap.size W).alloc zl (.cells #[.int .i64 0,.int .i64 0] 39)).drew))) (Canon.tr_seg ?_)
       simp only [zmC,zmN,zgZ,zgS]
       go_wp2_with fail
       refine Canon.tr_to (Canon.tr_one ?_)
     case' zs5 =>
      simp only [zgZ,zgS]
      go_wp2_with fail
      refine Canon.tr_end (keep_below (below_undrew (((Below.refl W.heap.size W).alloc zl (.cells #[.int .i64 0,.int .i64 0] 39)).drew))) (Canon.tr_one ?_)
      simp only [zgZ,zgS]
      go_wp2_with fail
      refine Canon.tr_end (keep_below (below_undrew (((Below.refl W.heap.size W).alloc zl (.cells #[.int .i64 0,.int .i64 0] 39)).drew))) (Canon.tr_seg ?_)
      simp only [zmC,zmN,zgZ,zgS]
      go_wp2_with fail
      refine Canon.tr_to (Canon.tr_one ?_)
      simp only [zgZ,zgS]
      go_wp2_with fail
      refine (a4.out _ (((Below.refl W.heap.size W).alloc zl (.cells #[.int .i64 0,.int .i64 0] 39)).drew)).mono ?_
      rintro e z ⟨rfl,rfl⟩
      go_wp2_with fail
      refine Canon.tr_end (keep_below (below_undrew (((Below.refl W.heap.size W).alloc zl (.cells #[.int .i64 0,.int .i64 0] 39)).drew))) (Canon.tr_one ?_)
      simp only [zgZ,zgS]
      go_wp2_with fail
      refine (I.out _ (((Below.refl W.heap.size W).alloc zl (.cells #[.int .i64 0,.int .i64 0] 39)).drew)).mono ?_
      rintro e z ⟨rfl,rfl⟩
      go_wp2_with fail
      refine Canon.tr_end (keep_below (below_undrew (((Below.refl W.heap.size W).alloc zl (.cells #[.int .i64 0,.int .i64 0] 39)).drew))) (Canon.tr_seg ?_)
      simp only [zmC,zmN,zgZ,zgS]
      go_wp2_with fail
      refine Canon.tr_to (Canon.tr_one ?_)
    case' zs2 =>
     simp only [zgZ,zgS]
     go_wp2_with fail
     refine Canon.tr_end (keep_below (below_undrew ((Below.refl W.heap.size W).drew))) (Canon.tr_seg ?_)
     simp only [zmC,zmN,zgZ,zgS]
     go_wp2_with fail
     refine Canon.tr_to (Canon.tr_alt ?zs12 (Canon.tr_alt ?zs13 (Canon.tr_one ?zs14)))
     case' zs12 =>
      simp only [zgZ,zgS]
      go_wp2_with fail
      refine Canon.tr_end (keep_below (below_undrew ((Below.refl W.heap.size W).drew))) (Canon.tr_seg ?_)
      simp only [zmC,zmN,zgZ,zgS]
      go_wp2_with fail
      refine Canon.tr_to (Canon.tr_alt ?zs15 (Canon.tr_one ?zs16))
      case' zs15 =>
       simp only [zgZ,zgS]
       go_wp2_with fail
       refine (a4.out _ ((Below.refl W.heap.size W).drew)).mono ?_
       rintro e z ⟨rfl,rfl⟩
       go_wp2_with fail
       refine Canon.tr_end (keep_below (below_undrew ((Below.refl W.heap.size W).drew))) (Canon.tr_alt ?zs17 (Canon.tr_one ?zs18))
       case' zs17 =>
        simp only [zgZ,zgS]
        go_wp2_with fail
        refine (I.out _ ((Below.refl W.heap.size W).drew)).mono ?_
        rintro e z ⟨rfl,rfl⟩
        go_wp2_with fail
        refine Canon.tr_end (keep_below (below_undrew ((Below.refl W.heap.size W).drew))) (Canon.tr_seg ?_)
        simp only [zmC,zmN,zgZ,zgS]
        go_wp2_with fail
        refine Canon.tr_to (Canon.tr_alt ?zs19 (Canon.tr_one ?zs20))
        case' zs19 =>
         simp only [zgZ,zgS]
        case' zs20 =>
         simp only [zgZ,zgS]
         go_wp2_with fail
         refine Canon.tr_end (keep_below (below_undrew (((Below.refl W.heap.size W).alloc zl (.cells #[.int .i64 0,.int .i64 0] 39)).drew))) (Canon.tr_one ?_)
       case' zs18 =>
        simp only [zgZ,zgS]
        go_wp2_with fail
        refine Canon.tr_end (keep_below (below_undrew (((Below.refl W.heap.size W).alloc zl (.cells #[.int .i64 0,.int .i64 0] 39)).drew))) (Canon.tr_one ?_)
        simp only [zgZ,zgS]
        go_wp2_with fail
        refine (I.out _ (((Below.refl W.heap.size W).alloc zl (.cells #[.int .i64 0,.int .i64 0] 39)).drew)).mono ?_
        rintro e z ⟨rfl,rfl⟩
        go_wp2_with fail
        refine Canon.tr_end (keep_below (below_undrew (((Below.refl W.heap.size W).alloc zl (.cells #[.int .i64 0,.int .i64 0] 39)).drew))) (Canon.tr_seg ?_)
        simp only [zmC,zmN,zgZ,zgS]
        go_wp2_with fail
        refine Canon.tr_to (Canon.tr_one ?_)
      case' zs16 =>
       simp only [zgZ,zgS]
       go_wp2_with fail
       refine Canon.tr_end (keep_below (below_undrew (((Below.refl W.heap.size W).alloc zl (.cells #[.int .i64 0,.int .i64 0] 39)).drew))) (Canon.tr_one ?_)
       simp only [zgZ,zgS]
       go_wp2_with fail
       refine (a4.out _ (((Below.refl W.heap.size W).alloc zl (.cells #[.int .i64 0,.int .i64 0] 39)).drew)).mono ?_
       rintro e z ⟨rfl,rfl⟩
       go_wp2_with fail
       refine Canon.tr_end (keep_below (below_undrew (((Below.refl W.heap.size W).alloc zl (.cells #[.int .i64 0,.int .i64 0] 39)).drew))) (Canon.tr_one ?_)
       simp only [zgZ,zgS]
       go_wp2_with fail
       refine (I.out _ (((Below.refl W.heap.size W).alloc zl (.cells #[.int .i64 0,.int .i64 0] 39)).drew)).mono ?_
       rintro e z ⟨rfl,rfl⟩
       go_wp2_with fail
       refine Canon.tr_end (keep_below (below_undrew (((Below.refl W.heap.size W).alloc zl (.cells #[.int .i64 0,.int .i64 0] 39)).drew))) (Canon.tr_seg ?_)
       simp only [zmC,zmN,zgZ,zgS]
       go_wp2_with fail
       refine Canon.tr_to (Canon.tr_one ?_)
     case' zs13 =>
      simp only [zgZ,zgS]
      go_wp2_with fail
      refine (a4.out _ ((Below.refl W.heap.size W).drew)).mono ?_
      rintro e z ⟨rfl,rfl⟩
      go_wp2_with fail
      refine Canon.tr_end (keep_below (below_undrew ((Below.refl W.heap.size W).drew))) (Canon.tr_alt ?zs21 (Canon.tr_one ?zs22))
      case' zs21 =>
       simp only [zgZ,zgS]
       go_wp2_with fail
       refine Canon.tr_end (keep_below (below_undrew ((Below.refl W.heap.size W).drew))) (Canon.tr_seg ?_)
       simp only [zmC,zmN,zgZ,zgS]
       go_wp2_with fail
       refine Canon.tr_to (Canon.tr_alt ?zs23 (Canon.tr_one ?zs24))
       case' zs23 =>
        simp only [zgZ,zgS]
        go_wp2_with fail
        refine (I.out _ ((Below.refl W.heap.size W).drew)).mono ?_
        rintro e z ⟨rfl,rfl⟩
        go_wp2_with fail
        refine Canon.tr_end (keep_below (below_undrew ((Below.refl W.heap.size W).drew))) (Canon.tr_seg ?_)
        simp only [zmC,zmN,zgZ,zgS]
        go_wp2_with fail
        refine Canon.tr_to (Canon.tr_alt ?zs25 (Canon.tr_one ?zs26))
        case' zs25 =>
         simp only [zgZ,zgS]
        case' zs26 =>
         simp only [zgZ,zgS]
         go_wp2_with fail
         refine Canon.tr_end (keep_below (below_undrew (((Below.refl W.heap.size W).alloc zl (.cells #[.int .i64 0,.int .i64 0] 39)).drew))) (Canon.tr_one ?_)
       case' zs24 =>
        simp only [zgZ,zgS]
        go_wp2_with fail
        refine Canon.tr_end (keep_below (below_undrew (((Below.refl W.heap.size W).alloc zl (.cells #[.int .i64 0,.int .i64 0] 39)).drew))) (Canon.tr_one ?_)
        simp only [zgZ,zgS]
        go_wp2_with fail
        refine (I.out _ (((Below.refl W.heap.size W).alloc zl (.cells #[.int .i64 0,.int .i64 0] 39)).drew)).mono ?_
        rintro e z ⟨rfl,rfl⟩
        go_wp2_with fail
        refine Canon.tr_end (keep_below (below_undrew (((Below.refl W.heap.size W).alloc zl (.cells #[.int .i64 0,.int .i64 0] 39)).drew))) (Canon.tr_seg ?_)
        simp only [zmC,zmN,zgZ,zgS]
        go_wp2_with fail
        refine Canon.tr_to (Canon.tr_one ?_)
      case' zs22 =>
       simp only [zgZ,zgS]
       go_wp2_with fail
       refine Canon.tr_end (keep_below (below_undrew (((Below.refl W.heap.size W).alloc zl (.cells #[.int .i64 0,.int .i64 0] 39)).drew))) (Canon.tr_one ?_)
       simp only [zgZ,zgS]
       go_wp2_with fail
       refine Canon.tr_end (keep_below (below_undrew (((Below.refl W.heap.size W).alloc zl (.cells #[.int .i64 0,.int .i64 0] 39)).drew))) (Canon.tr_seg ?_)
       simp only [zmC,zmN,zgZ,zgS]
       go_wp2_with fail
       refine Canon.tr_to (Canon.tr_one ?_)
       simp only [zgZ,zgS]
       go_wp2_with fail
       refine (I.out _ (((Below.refl W.heap.size W).alloc zl (.cells #[.int .i64 0,.int .i64 0] 39)).drew)).mono ?_
       rintro e z ⟨rfl,rfl⟩
       go_wp2_with fail
       refine Canon.tr_end (keep_below (below_undrew (((Below.refl W.heap.size W).alloc zl (.cells #[.int .i64 0,.int .i64 0] 39)).drew))) (Canon.tr_seg ?_)
       simp only [zmC,zmN,zgZ,zgS]
       go_wp2_with fail
       refine Canon.tr_to (Canon.tr_one ?_)
     case' zs14 =>
      simp only [zgZ,zgS]
      go_wp2_with fail
      refine Canon.tr_end (keep_below (below_undrew (((Below.refl W.heap.size W).alloc zl (.cells #[.int .i64 0,.int .i64 0] 39)).drew))) (Canon.tr_alt ?zs27 (Canon.tr_one ?zs28))
      case' zs27 =>
       simp only [zgZ,zgS]
       go_wp2_with fail
       refine Canon.tr_end (keep_below (below_undrew (((Below.refl W.heap.size W).alloc zl (.cells #[.int .i64 0,.int .i64 0] 39)).drew))) (Canon.tr_seg ?_)
       simp only [zmC,zmN,zgZ,zgS]
       go_wp2_with fail
       refine Canon.tr_to (Canon.tr_one ?_)
       simp only [zgZ,zgS]
       go_wp2_with fail
       refine (a4.out _ (((Below.refl W.heap.size W).alloc zl (.cells #[.int .i64 0,.int .i64 0] 39)).drew)).mono ?_
       rintro e z ⟨rfl,rfl⟩
       go_wp2_with fail
       refine Canon.tr_end (keep_below (below_undrew (((Below.refl W.heap.size W).alloc zl (.cells #[.int .i64 0,.int .i64 0] 39)).drew))) (Canon.tr_one ?_)
       simp only [zgZ,zgS]
       go_wp2_with fail
       refine (I.out _ (((Below.refl W.heap.size W).alloc zl (.cells #[.int .i64 0,.int .i64 0] 39)).drew)).mono ?_
       rintro e z ⟨rfl,rfl⟩
       go_wp2_with fail
       refine Canon.tr_end (keep_below (below_undrew (((Below.refl W.heap.size W).alloc zl (.cells #[.int .i64 0,.int .i64 0] 39)).drew))) (Canon.tr_seg ?_)
       simp only [zmC,zmN,zgZ,zgS]
       go_wp2_with fail
       refine Canon.tr_to (Canon.tr_one ?_)
      case' zs28 =>
       simp only [zgZ,zgS]
       go_wp2_with fail
       refine (a4.out _ (((Below.refl W.heap.size W).alloc zl (.cells #[.int .i64 0,.int .i64 0] 39)).drew)).mono ?_
       rintro e z ⟨rfl,rfl⟩
       go_wp2_with fail
       refine Canon.tr_end (keep_below (below_undrew (((Below.refl W.heap.size W).alloc zl (.cells #[.int .i64 0,.int .i64 0] 39)).drew))) (Canon.tr_one ?_)
       simp only [zgZ,zgS]
       go_wp2_with fail
       refine Canon.tr_end (keep_below (below_undrew (((Below.refl W.heap.size W).alloc zl (.cells #[.int .i64 0,.int .i64 0] 39)).drew))) (Canon.tr_seg ?_)
       simp only [zmC,zmN,zgZ,zgS]
       go_wp2_with fail
       refine Canon.tr_to (Canon.tr_one ?_)
       simp only [zgZ,zgS]
       go_wp2_with fail
       refine (I.out _ (((Below.refl W.heap.size W).alloc zl (.cells #[.int .i64 0,.int .i64 0] 39)).drew)).mono ?_
       rintro e z ⟨rfl,rfl⟩
       go_wp2_with fail
       refine Canon.tr_end (keep_below (below_undrew (((Below.refl W.heap.size W).alloc zl (.cells #[.int .i64 0,.int .i64 0] 39)).drew))) (Canon.tr_seg ?_)
       simp only [zmC,zmN,zgZ,zgS]
       go_wp2_with fail
       refine Canon.tr_to (Canon.tr_one ?_)
    case' zs3 =>
     simp only [zgZ,zgS]
     go_wp2_with fail
     refine Canon.tr_end (keep_below (below_undrew (((Below.refl W.heap.size W).alloc zl (.cells #[.int .i64 0,.int .i64 0] 39)).drew))) (Canon.tr_alt ?zs29 (Canon.tr_one ?zs30))
     case' zs29 =>
      simp only [zgZ,zgS]
      go_wp2_with fail
      refine Canon.tr_end (keep_below (below_undrew (((Below.refl W.heap.size W).alloc zl (.cells #[.int .i64 0,.int .i64 0] 39)).drew))) (Canon.tr_seg ?_)
      simp only [zmC,zmN,zgZ,zgS]
      go_wp2_with fail
      refine Canon.tr_to (Canon.tr_one ?_)
      simp only [zgZ,zgS]
      go_wp2_with fail
      refine Canon.tr_end (keep_below (below_undrew (((Below.refl W.heap.size W).alloc zl (.cells #[.int .i64 0,.int .i64 0] 39)).drew))) (Canon.tr_seg ?_)
      simp only [zmC,zmN,zgZ,zgS]
      go_wp2_with fail
      refine Canon.tr_to (Canon.tr_one ?_)
      simp only [zgZ,zgS]
      go_wp2_with fail
      refine (a4.out _ (((Below.refl W.heap.size W).alloc zl (.cells #[.int .i64 0,.int .i64 0] 39)).drew)).mono ?_
      rintro e z ⟨rfl,rfl⟩
      go_wp2_with fail
      refine Canon.tr_end (keep_below (below_undrew (((Below.refl W.heap.size W).alloc zl (.cells #[.int .i64 0,.int .i64 0] 39)).drew))) (Canon.tr_one ?_)
      simp only [zgZ,zgS]
      go_wp2_with fail
      refine (I.out _ (((Below.refl W.heap.size W).alloc zl (.cells #[.int .i64 0,.int .i64 0] 39)).drew)).mono ?_
      rintro e z ⟨rfl,rfl⟩
      go_wp2_with fail
      refine Canon.tr_end (keep_below (below_undrew (((Below.refl W.heap.size W).alloc zl (.cells #[.int .i64 0,.int .i64 0] 39)).drew))) (Canon.tr_seg ?_)
      simp only [zmC,zmN,zgZ,zgS]
      go_wp2_with fail
      refine Canon.tr_to (Canon.tr_one ?_)
     case' zs30 =>
      simp only [zgZ,zgS]
      go_wp2_with fail
      refine Canon.tr_end (keep_below (below_undrew (((Below.refl W.heap.size W).alloc zl (.cells #[.int .i64 0,.int .i64 0] 39)).drew))) (Canon.tr_seg ?_)
      simp only [zmC,zmN,zgZ,zgS]
      go_wp2_with fail
      refine Canon.tr_to (Canon.tr_alt ?zs31 (Canon.tr_one ?zs32))
      case' zs31 =>
       simp only [zgZ,zgS]
       go_wp2_with fail
       refine Canon.tr_end (keep_below (below_undrew (((Below.refl W.heap.size W).alloc zl (.cells #[.int .i64 0,.int .i64 0] 39)).drew))) (Canon.tr_seg ?_)
       simp only [zmC,zmN,zgZ,zgS]
       go_wp2_with fail
       refine Canon.tr_to (Canon.tr_one ?_)
       simp only [zgZ,zgS]
       go_wp2_with fail
       refine (a4.out _ (((Below.refl W.heap.size W).alloc zl (.cells #[.int .i64 0,.int .i64 0] 39)).drew)).mono ?_
       rintro e z ⟨rfl,rfl⟩
       go_wp2_with fail
       refine Canon.tr_end (keep_below (below_undrew (((Below.refl W.heap.size W).alloc zl (.cells #[.int .i64 0,.int .i64 0] 39)).drew))) (Canon.tr_one ?_)
       simp only [zgZ,zgS]
       go_wp2_with fail
       refine (I.out _ (((Below.refl W.heap.size W).alloc zl (.cells #[.int .i64 0,.int .i64 0] 39)).drew)).mono ?_
       rintro e z ⟨rfl,rfl⟩
       go_wp2_with fail
       refine Canon.tr_end (keep_below (below_undrew (((Below.refl W.heap.size W).alloc zl (.cells #[.int .i64 0,.int .i64 0] 39)).drew))) (Canon.tr_seg ?_)
       simp only [zmC,zmN,zgZ,zgS]
       go_wp2_with fail
       refine Canon.tr_to (Canon.tr_one ?_)
      case' zs32 =>
       simp only [zgZ,zgS]
       go_wp2_with fail
       refine (a4.out _ (((Below.refl W.heap.size W).alloc zl (.cells #[.int .i64 0,.int .i64 0] 39)).drew)).mono ?_
       rintro e z ⟨rfl,rfl⟩
       go_wp2_with fail
       refine Canon.tr_end (keep_below (below_undrew (((Below.refl W.heap.size W).alloc zl (.cells #[.int .i64 0,.int .i64 0] 39)).drew))) (Canon.tr_one ?_)
       simp only [zgZ,zgS]
       go_wp2_with fail
       refine Canon.tr_end (keep_below (below_undrew (((Below.refl W.heap.size W).alloc zl (.cells #[.int .i64 0,.int .i64 0] 39)).drew))) (Canon.tr_seg ?_)
       simp only [zmC,zmN,zgZ,zgS]
       go_wp2_with fail
       refine Canon.tr_to (Canon.tr_one ?_)
       simp only [zgZ,zgS]
       go_wp2_with fail
       refine (I.out _ (((Below.refl W.heap.size W).alloc zl (.cells #[.int .i64 0,.int .i64 0] 39)).drew)).mono ?_
       rintro e z ⟨rfl,rfl⟩
       go_wp2_with fail
       refine Canon.tr_end (keep_below (below_undrew (((Below.refl W.heap.size W).alloc zl (.cells #[.int .i64 0,.int .i64 0] 39)).drew))) (Canon.tr_seg ?_)
       simp only [zmC,zmN,zgZ,zgS]
       go_wp2_with fail
       refine Canon.tr_to (Canon.tr_one ?_)
    all_goals first
     | (
      simp only [zgZ,zgS]
      go_wp2_with fail
      refine (fe.out _).mono ?_
      rintro e w3 ⟨rfl,db⟩
      have J:=(((Below.refl W.heap.size W).alloc zl (.cells #[.int .i64 0,.int .i64 0] 39)).drew).trans (db.mono (by simp))
      have fi:=((Bk.new W 39 [.int .i64 0,.int .i64 0]).drew).below db (by simp)
      have z0:w3.cell? ⟨W.heap.size,0,none⟩=some (.int .i64 0):=fi.cell 0
      have z1:w3.cell? ⟨W.heap.size,1,none⟩=some (.int .i64 0):=fi.cell 1
      have zf:=fi.frozen
      go_wp2_with fail
      refine Canon.tr_end (keep_below (below_undrew J)) (Canon.tr_one ?_)
      simp only [zgZ,zgS]
      go_wp2_with fail
      refine Canon.tr_end (keep_below (below_undrew ((J.setCell (p:=⟨W.heap.size,0,none⟩) zl (.int .i64 q1)).setCell (p:=⟨W.heap.size,1,none⟩) zl (.int .i64 q2)))) (Canon.tr_fin (by rfl) (zF ⟨.inl ⟨_,rfl,(by first | (show d+1<_;omega) | (show d<_;omega) | (show g<_;omega)),by rw [World.cell?_drew,d1];rfl⟩,zF ⟨.inl ⟨_,rfl,(by first | (show d+1<_;omega) | (show d<_;omega) | (show g<_;omega)),by rw [World.cell?_drew,d0];rfl⟩,zF ⟨.inl ⟨_,rfl,(by first | (show d+1<_;omega) | (show d<_;omega) | (show g<_;omega)),by rw [World.cell?_drew,d7];rfl⟩,zF ⟨.inl ⟨_,rfl,(by first | (show d+1<_;omega) | (show d<_;omega) | (show g<_;omega)),by rw [World.cell?_drew,d0];rfl⟩,zF ⟨.inl ⟨_,rfl,(by first | (show d+1<_;omega) | (show d<_;omega) | (show g<_;omega)),by rw [World.cell?_drew,d7];rfl⟩,fun _ h=>by cases h⟩⟩⟩⟩⟩) ?_)
      exact ⟨rfl,_,rfl,(fi.set 0 (.int .i64 q1)).set 1 (.int .i64 q2),zl,(J.setCell (p:=⟨W.heap.size,0,none⟩) zl (.int .i64 q1)).setCell (p:=⟨W.heap.size,1,none⟩) zl (.int .i64 q2)⟩)
     | (
      go_wp2_with fail
      refine (fe.out _).mono ?_
      rintro e w3 ⟨rfl,db⟩
      have J:=((Below.refl W.heap.size W).drew).trans (db.mono zl)
      go_wp2_with fail
      refine Canon.tr_end (keep_below (below_undrew J)) (Canon.tr_one ?_)
      simp only [zgZ,zgS]
      go_wp2_with fail
      refine Canon.tr_end (keep_below (below_undrew (J.alloc J.size (.cells #[.int .i64 0,.int .i64 0] 39)))) (Canon.tr_one ?_)
      simp only [zgZ,zgS]
      go_wp2_with fail
      refine Canon.tr_end (keep_below (below_undrew (J.alloc J.size (.cells #[.int .i64 q1,.int .i64 q2] 39)))) (Canon.tr_fin (by rfl) (zF ⟨.inl ⟨_,rfl,(by first | (show d+1<_;omega) | (show d<_;omega) | (show g<_;omega)),by rw [World.cell?_drew,d1];rfl⟩,zF ⟨.inl ⟨_,rfl,(by first | (show d+1<_;omega) | (show d<_;omega) | (show g<_;omega)),by rw [World.cell?_drew,d0];rfl⟩,zF ⟨.inl ⟨_,rfl,(by first | (show d+1<_;omega) | (show d<_;omega) | (show g<_;omega)),by rw [World.cell?_drew,d7];rfl⟩,zF ⟨.inl ⟨_,rfl,(by first | (show d+1<_;omega) | (show d<_;omega) | (show g<_;omega)),by rw [World.cell?_drew,d0];rfl⟩,zF ⟨.inl ⟨_,rfl,(by first | (show d+1<_;omega) | (show d<_;omega) | (show g<_;omega)),by rw [World.cell?_drew,d7];rfl⟩,fun _ h=>by cases h⟩⟩⟩⟩⟩) ?_)
      exact ⟨rfl,_,rfl,Bk.new w3 39 [.int .i64 q1,.int .i64 q2],J.size,J.alloc J.size (.cells #[.int .i64 q1,.int .i64 q2] 39)⟩)
  case rest6 =>
   rintro a' E ⟨b,rfl,j8,mf,dc⟩
   have lj:=dc.size
   have gm:=ec.out.below dc
   have ir:E.cell? ⟨g,0,none⟩=some (.pointer s):=(dc.cell (p:=⟨g,0,none⟩) la).trans d7
   have it:=gm.b0.cell
   have cw:=fun wz (hz:Below E.heap.size E wz)=>opp_calls ((b6.out.below dc b6.out.le).below hz (by have:=b6.out.le;omega)) hs (pv x.1:Int)
   rw [tOpp_at (pv_lt x.2)] at cw
   have ji:=fun wz (hz:Below E.heap.size E wz)=>tab_prev ((b6.out.below dc b6.out.le).below hz (by have:=b6.out.le;omega)) (c:=x.1) x.2
   have hm:decide (0<=oi (opp T (pv x.1)))=(opp T (pv x.1)).isSome:=oi_nonneg
   obtain ⟨y,hy⟩:∃ y,oi (opp T (pv x.1))=y:=⟨_,rfl⟩
   rw [hy] at cw hm
   have mj:g<E.heap.size:=by omega
   clear d7 d0 d1
   obtain ⟨jt,kc,eu,ke,fy,n5⟩:=zz6 gm cw ji hm j8 hy;clear gm cw ji hm j8 hy
   gi_wp2_with fail
   refine wpIn_cut (fun a' z=>a'={ tmps:=#[.pointer (some ⟨g,0,none⟩),.int .i64 v,.pointer (some ⟨d,0,none⟩),.pointer (some ⟨d+1,0,none⟩),.slice none 0 0,.pointer (some ⟨d+1+1,0,none⟩),.pointer (some ⟨d+1+1+1,0,none⟩),.pointer (some ⟨d+1+1+1+1,0,none⟩),.int .i64 (x.1:Int),.pointer (some ⟨b,0,none⟩),.bool (decide (0<=y)),.pointer (some ⟨g,0,none⟩),.pointer (some ⟨g,0,none⟩),.pointer (some ⟨g,0,none⟩),.pointer s,.int .i64 v,.func (.func 124) #[] #[.pointer (some ⟨d+5,0,none⟩),.pointer (some ⟨d+5+1,0,none⟩)],.int .i64 (x.1:Int),.int .i64 v,.pointer (some ⟨g,0,none⟩),.pointer (some ⟨g,0,none⟩),.pointer (some ⟨g,0,none⟩),.pointer s,.pointer (some ⟨g,0,none⟩),.pointer (some ⟨g,0,none⟩),.pointer (some ⟨g,0,none⟩),.pointer s,.int .i64 (x.1:Int),.int .i64 (nx x.1:Int),.int .i64 u,.agg #[.int .i64 v,.int .i64 u],.agg #[.int .i64 q1,.int .i64 q2],.pointer (some ⟨g,0,none⟩),.pointer (some ⟨g,0,none⟩),.pointer (some ⟨g,0,none⟩),.pointer s,.pointer (some ⟨g,0,none⟩),.pointer (some ⟨g,0,none⟩),.pointer (some ⟨g,0,none⟩),.pointer s,.int .i64 (x.1:Int),.int .i64 (pv x.1:Int),.int .i64 y,.bool (decide (0<=y)),undef,undef,undef,undef,undef,undef,undef,undef,undef,undef,undef,undef,undef,undef,undef,undef,undef,undef,undef,undef,undef,undef,undef,undef,undef,undef,undef,undef,undef,undef,undef,undef,undef,undef,undef,undef,undef,undef,undef,undef,undef,undef,undef,undef,undef,undef,undef,undef,undef,undef,undef,undef,undef,undef,undef,undef,undef],defers:=[] }/\Below E.heap.size E z) ?first7 ?rest7
   case first7 =>
    refine (Canon.wide_round l).region_tree [0,3,4,7] (fun b=>b<E.heap.size) (.seg [0,4,8] (.alt 1 (.seg [2,3] (.alt 5 (.seg [6,7] (.alt 9 (.alt 10 (.seg [11,12] .fin) .no) .no)) .no)) (.alt 5 (.seg [6,7] (.alt 1 (.seg [2,3] (.alt 9 (.alt 10 (.seg [11,12] .fin) .no) .no)) (.alt 9 (.alt 1 (.seg [2,3] (.alt 10 (.seg [11,12] .fin) .no)) .no) .no))) .no))) (by rfl) mixed (by kernel_rfl) ?_
    refine Canon.tr_seg ?_
    simp only [zmC,zmN,zgZ,zgS]
    go_wp2_with fail
    refine Canon.tr_to (Canon.tr_alt ?zt1 (Canon.tr_one ?zt2))
    case' zt1 =>
     simp only [zgZ,zgS]
     go_wp2_with fail
     refine Canon.tr_end (keep_below (below_undrew ((Below.refl E.heap.size E).drew))) (Canon.tr_seg ?_)
     simp only [zmC,zmN,zgZ,zgS]
     go_wp2_with fail
     refine Canon.tr_to (Canon.tr_one ?_)
     simp only [zgZ,zgS]
     go_wp2_with fail
     refine Canon.tr_end (keep_below (below_undrew ((Below.refl E.heap.size E).drew))) (Canon.tr_seg ?_)
     simp only [zmC,zmN,zgZ,zgS]
     go_wp2_with fail
     refine Canon.tr_to (Canon.tr_one ?_)
     simp only [zgZ,zgS]
     go_wp2_with fail
     refine (eu.out _ ((Below.refl E.heap.size E).drew)).mono ?_
     rintro e z ⟨rfl,rfl⟩
     go_wp2_with fail
     refine Canon.tr_end (keep_below (below_undrew ((Below.refl E.heap.size E).drew))) (Canon.tr_one ?_)
    case' zt2 =>
     simp only [zgZ,zgS]
     go_wp2_with fail
     refine Canon.tr_end (keep_below (below_undrew ((Below.refl E.heap.size E).drew))) (Canon.tr_seg ?_)
     simp only [zmC,zmN,zgZ,zgS]
     go_wp2_with fail
     refine Canon.tr_to (Canon.tr_alt ?zt3 (Canon.tr_one ?zt4))
     case' zt3 =>
      simp only [zgZ,zgS]
      go_wp2_with fail
      refine Canon.tr_end (keep_below (below_undrew ((Below.refl E.heap.size E).drew))) (Canon.tr_seg ?_)
      simp only [zmC,zmN,zgZ,zgS]
      go_wp2_with fail
      refine Canon.tr_to (Canon.tr_one ?_)
      simp only [zgZ,zgS]
      go_wp2_with fail
      refine (eu.out _ ((Below.refl E.heap.size E).drew)).mono ?_
      rintro e z ⟨rfl,rfl⟩
      go_wp2_with fail
      refine Canon.tr_end (keep_below (below_undrew ((Below.refl E.heap.size E).drew))) (Canon.tr_one ?_)
     case' zt4 =>
      simp only [zgZ,zgS]
      go_wp2_with fail
      refine (eu.out _ ((Below.refl E.heap.size E).drew)).mono ?_
      rintro e z ⟨rfl,rfl⟩
      go_wp2_with fail
      refine Canon.tr_end (keep_below (below_undrew ((Below.refl E.heap.size E).drew))) (Canon.tr_one ?_)
      simp only [zgZ,zgS]
      go_wp2_with fail
      refine Canon.tr_end (keep_below (below_undrew ((Below.refl E.heap.size E).drew))) (Canon.tr_seg ?_)
      simp only [zmC,zmN,zgZ,zgS]
      go_wp2_with fail
      refine Canon.tr_to (Canon.tr_one ?_)
    all_goals
     simp only [zgZ,zgS]
     go_wp2_with fail
     refine (kc.out _ ((Below.refl E.heap.size E).drew)).mono ?_
     rintro e w3 ⟨rfl,db⟩
     have J:=((Below.refl E.heap.size E).drew).trans (db.mono zl)
     go_wp2_with fail
     refine Canon.tr_end (keep_below (below_undrew J)) (Canon.tr_seg ?_)
     simp only [zmC,zmN,zgZ,zgS]
     go_wp2_with fail
     refine Canon.tr_to (Canon.tr_fin (by rfl) (zF ⟨.inl ⟨_,rfl,(by first | (show d<_;omega) | (show g<_;omega)),by rw [World.cell?_drew,it];rfl⟩,zF ⟨.inl ⟨_,rfl,(by first | (show d<_;omega) | (show g<_;omega)),by rw [World.cell?_drew,ir];rfl⟩,zF ⟨.inl ⟨_,rfl,(by first | (show d<_;omega) | (show g<_;omega)),by rw [World.cell?_drew,it];rfl⟩,zF ⟨.inl ⟨_,rfl,(by first | (show d<_;omega) | (show g<_;omega)),by rw [World.cell?_drew,ir];rfl⟩,fun _ h=>by cases h⟩⟩⟩⟩) ?_)
     exact ⟨rfl,rfl,J⟩
   case rest7 =>
    rintro a' Z ⟨rfl,b7⟩
    have nn:=b7.size
    have ai:=jt.out.below b7
    have dw:=dc.trans (b7.mono lj)
    have dz:=keeps_below dw
    have bd:=fy.out.below b7 (by have:=fy.out.lt;omega)
    have me:=bd.lt
    have e0:Z.cell? ⟨b,0,none⟩=some (.int .i64 q1):=bd.cell 0
    have e1:Z.cell? ⟨b,1,none⟩=some (.int .i64 q2):=bd.cell 1
    have na:=Hh.out
    rw [ke.out]
    obtain ⟨ob,de⟩:∃ ob,(opp T (pv x.1)).isSome=ob:=⟨_,rfl⟩
    rw [de]
    have mk:g<Z.heap.size:=by omega
    have gt:Below d w Z:=ai.bl
    obtain ⟨S,d9,da⟩:=Hh.out.cuts
    have nd:=d9.lt
    have fh:=d9.below gt (by omega)
    have n7:Z.cell? ⟨g,1,none⟩=some (.map (some bc)):=(gt.cell (p:=⟨g,1,none⟩) gx).trans (Hh.out.blk.cell 1)
    have n8:=ai.b0.cell
    have cx:pBv T (L.map nm) v x.1=(Words.look S (q1,q2)).isSome:=by
     unfold pBv
     rw [io.out,show (q1,q2)=nm (v,u) from Prod.ext gc.out.symm gd.out.symm]
     cases G:(Words.look S (nm (v,u))).isSome with
     | true=>exact decide_eq_true ((da _).1 G)
     | false=>exact decide_eq_false fun h8=>by rw [(da _).2 h8] at G;cases G
    obtain ⟨vo,V,rv,g1,g2,g3,g4,g5,g6⟩:=ai.len
    have r3:=g3.cell
    have r2:=g1.cell
    have r4:=ai.b4.cell
    have dk:=g1.frozen
    have fl:=g3.frozen
    have fm:=ai.b4.frozen
    obtain ⟨i0,hi,dh,di,dj⟩:=info_parts infoInt
    have e2:ok2 (q1,q2):=by
     have lh:=hs.rng (nx x.1) (nx_lt x.2)
     have nj:=hs.nmax
     rw [io.out] at lh
     have a1:=gc.out
     have a2:=gd.out
     unfold nm at a1 a2
     simp only [] at a1 a2
     exact ⟨by unfold I64;simp only [];omega,by unfold I64;simp only [];omega⟩
    have kp:(splL (pBv T (L.map nm) v) (F.map (·.1))).2.length<=100000:=by
     have:=splL_few (pBv T (L.map nm) v) (F.map (·.1))
     rw [List.length_map] at this
     have:=hs.tmax
     omega
    have dx:(splL (pBv T (L.map nm) v) (F.map (·.1))).1.length<=50000:=by
     have:=splL_fewo (pBv T (L.map nm) v) (F.map (·.1))
     rw [List.length_map] at this
     have:=hs.tmax
     omega
    by_cases hP:F.map (·.1)=[]
    ·rw [hP] at ai g4 g5 g6
     have H:splL (pBv T (L.map nm) v) []=([],[]):=rfl
     rw [H] at ai g4 g5 g6
     simp only [List.nil_append] at g4
     obtain ⟨A3,ba,rfl,j9⟩:=own_form g5
     simp only [List.length_nil] at r3 j9
     have kv:V=[]:=List.length_eq_zero_iff.1 g6
     subst kv
     have ad:splL (pBv T (L.map nm) v) (F.map (·.1)++[x.1])=([],[x.1]):=by rw [hP,splL_snoc];rfl
     have df:opn T (L.map nm) v (F.map (·.1)++[x.1])=(ob && !(Words.look S (q1,q2)).isSome):=by rw [hP];show ((opp T (pv x.1)).isSome && !pBv T (L.map nm) v x.1)=_;rw [de,cx]
     obtain ⟨az,bh⟩:∃ az,(Words.look S (q1,q2)).isSome=az:=⟨_,rfl⟩
     rw [bh] at df
     obtain ⟨dl,c8,i3,jv,jw,et,kd,bx,ik,il,d5,im⟩:=zz12 ai dz bd d9 da fh cx g1 g2 g3 g4 g5;obtain ⟨a5,cf,dt,ka,dq⟩:=zz5 ad df bh de e2;clear ai dz bd d9 da fh cx g1 g2 g3 g4 g5 ad df bh de e2
     cases ob with
     | true =>
      gi_wp2_with fail
      refine (Canon.wide_round l).region_tree [6] (fun b'=>b'=b) (.seg [0,1,2,6] (.alt 3 (.seg [4,5] (.alt 7 (.seg [8,9] (.alt 10 .fin .no)) .no)) .no)) (by rfl) mixed (by kernel_rfl) ?_
      refine Canon.tr_seg ?_
      simp only [zmC,zmN,zgZ,zgS]
      go_wp2_with fail
      refine Canon.tr_to (Canon.tr_one ?_)
      simp only [zgZ,zgS]
      go_wp2_with fail
      refine Canon.tr_end (fun _ _=>rfl) (Canon.tr_seg ?_)
      simp only [zmC,zmN,zgZ,zgS]
      go_wp2_with fail
      refine Canon.tr_to (Canon.tr_one ?_)
      simp only [zgZ,zgS]
      refine wpList_lookG _ (by rfl) _ _ 103 rfl 39 4 keyE Tryz.underlying103 zero_bool bc S rfl et.out.drew (q1,q2) rfl dq.out ?_
      rw [look_yes,dt.out]
      go_wp2_with fail
      refine Canon.tr_end (fun _ _=>rfl) (Canon.tr_seg ?_)
      simp only [zmC,zmN,zgZ,zgS]
      go_wp2_with fail
      refine Canon.tr_to (Canon.tr_one ?_)
      simp only [zgZ,zgS]
      go_wp2_with fail
      refine Canon.tr_end (fun b' hb'=>by subst hb';exact Below.heap_setCell Z ⟨d+1+1+1+1,0,none⟩ (.bool !az) _ (by show _≠d+1+1+1+1;omega)) (Canon.tr_fin (by rfl) (zF ⟨.inl ⟨_,rfl,rfl,by rw [World.cell?_drew,e0];rfl⟩,fun _ h=>by cases h⟩) ?_)
      obtain ⟨a9,ct,cp⟩:=dl.out.mark (!az)
      have aj:=(c8.out.trans ct).trans (KeepsOthers.drew _)
      have au:Below d W (Z.setCell ⟨d+1+1+1+1,0,none⟩ (.bool !az)).drew:=((dw.mono (by omega)).trans cp).drew
      have M:=a9.below (Below.refl _ _).drew
      obtain ⟨W8,c2⟩:∃ W8,W8=(Z.setCell ⟨d+1+1+1+1,0,none⟩ (.bool !az)).drew:=⟨_,rfl⟩
      rw [<- c2] at aj au M ⊢
      clear c2 r2 r3 r4 dk fl fm e0 e1 ct cp a9
      have ce:=zz aj;clear aj
      obtain ⟨jo,jr,er,k1,Q,k3,k4,k5,k6⟩:=M.len
      have hp:=k3.cell
      have ay:=M.sz
      have cn:=ec.out.b5.cell
      clear k6
      obtain ⟨a6,t,Y,b9⟩:=zz4 k1 Q k4 M;clear k1 Q k4 M
      gi_wp2_with (gi_at_builtin;(refine wpListIn_append_own_at _ rfl _ _ 28 rfl (d+7) 3 i0 (.int .i64 0) 1 8 Tryz.underlying28 hi dh di dj rfl (by decide) er _ _ rfl (k5.alloc _) ⟨W8.heap.size,0,none⟩ 1 1 [.int .i64 (x.1:Int)] rfl rfl (cell_one_new _ _ _) (by simp [Value.oneCell']) (by unfold maxLen;first | omega | (simp;done) | (simp;omega)) (by first | omega | (simp;done) | (simp;omega)) (by first | omega | (simp;done) | (simp;omega)) ?_;intro v' w1 f m _ bp;obtain ⟨g',cap',rfl⟩:=ownsRow_succ f;obtain ⟨P,-⟩:=own_append (B:=d+1+1+1) k3 (by omega) k5 ay f m;have cr:=P.cell;have cs:=P.frozen))
      obtain ⟨ap,cu,cq⟩:=b9.out.app a6.out t.out k3 Y.out f m bp
      refine ⟨ce.out.trans cu,⟨au.trans cq,ap.b5.cell.trans cn.symm⟩,?_⟩
      show SecI w d g s v T (L.map nm) ((F++[x]).map (·.1)) _
      rw [List.map_append,List.map_cons,List.map_nil]
      exact secI_of a5.out cf.out ap
     | false =>
      gi_wp2_with fail
      refine (Canon.wide_round l).region_tree [6] (fun b'=>b'=b) (.seg [0,1,2,6] (.alt 3 (.seg [4,5] (.alt 7 (.seg [8,9] (.alt 10 .fin .no)) .no)) .no)) (by rfl) mixed (by kernel_rfl) ?_
      refine Canon.tr_seg ?_
      simp only [zmC,zmN,zgZ,zgS]
      go_wp2_with fail
      refine Canon.tr_to (Canon.tr_one ?_)
      simp only [zgZ,zgS]
      go_wp2_with fail
      refine Canon.tr_end (fun _ _=>rfl) (Canon.tr_seg ?_)
      simp only [zmC,zmN,zgZ,zgS]
      go_wp2_with fail
      refine Canon.tr_to (Canon.tr_one ?_)
      simp only [zgZ,zgS]
      go_wp2_with fail
      refine Canon.tr_end (fun _ _=>rfl) (Canon.tr_seg ?_)
      simp only [zmC,zmN,zgZ,zgS]
      go_wp2_with fail
      refine Canon.tr_to (Canon.tr_one ?_)
      simp only [zgZ,zgS]
      go_wp2_with fail
      refine Canon.tr_end (fun b' hb'=>by subst hb';exact Below.heap_setCell Z ⟨d+1+1+1+1,0,none⟩ (.bool false) _ (by show _≠d+1+1+1+1;omega)) (Canon.tr_fin (by rfl) (zF ⟨.inl ⟨_,rfl,rfl,by rw [World.cell?_drew,e0];rfl⟩,fun _ h=>by cases h⟩) ?_)
      obtain ⟨a9,ct,cp⟩:=dl.out.mark false
      have aj:=(c8.out.trans ct).trans (KeepsOthers.drew _)
      have au:Below d W (Z.setCell ⟨d+1+1+1+1,0,none⟩ (.bool false)).drew:=((dw.mono (by omega)).trans cp).drew
      have M:=a9.below (Below.refl _ _).drew
      obtain ⟨W8,c2⟩:∃ W8,W8=(Z.setCell ⟨d+1+1+1+1,0,none⟩ (.bool false)).drew:=⟨_,rfl⟩
      rw [<- c2] at aj au M ⊢
      clear c2 r2 r3 r4 dk fl fm e0 e1 ct cp a9
      have ce:=zz aj;clear aj
      obtain ⟨jo,jr,er,k1,Q,k3,k4,k5,k6⟩:=M.len
      have hp:=k3.cell
      have ay:=M.sz
      have cn:=ec.out.b5.cell
      clear k6
      obtain ⟨a6,t,Y,b9⟩:=zz4 k1 Q k4 M;clear k1 Q k4 M
      gi_wp2_with (gi_at_builtin;(refine wpListIn_append_own_at _ rfl _ _ 28 rfl (d+7) 3 i0 (.int .i64 0) 1 8 Tryz.underlying28 hi dh di dj rfl (by decide) er _ _ rfl (k5.alloc _) ⟨W8.heap.size,0,none⟩ 1 1 [.int .i64 (x.1:Int)] rfl rfl (cell_one_new _ _ _) (by simp [Value.oneCell']) (by unfold maxLen;first | omega | (simp;done) | (simp;omega)) (by first | omega | (simp;done) | (simp;omega)) (by first | omega | (simp;done) | (simp;omega)) ?_;intro v' w1 f m _ bp;obtain ⟨g',cap',rfl⟩:=ownsRow_succ f;obtain ⟨P,-⟩:=own_append (B:=d+1+1+1) k3 (by omega) k5 ay f m;have cr:=P.cell;have cs:=P.frozen))
      obtain ⟨ap,cu,cq⟩:=b9.out.app a6.out t.out k3 Y.out f m bp
      refine ⟨ce.out.trans cu,⟨au.trans cq,ap.b5.cell.trans cn.symm⟩,?_⟩
      show SecI w d g s v T (L.map nm) ((F++[x]).map (·.1)) _
      rw [List.map_append,List.map_cons,List.map_nil]
      exact secI_of a5.out cf.out ap
    ·have kn:0<(F.map (·.1)).length:=List.length_pos_iff.2 hP
     have e4:=(splL_rows (pBv T (L.map nm) v) _ kn).1
     have hf:splL (pBv T (L.map nm) v) (F.map (·.1)++[x.1])=splS (pBv T (L.map nm) v) (splL (pBv T (L.map nm) v) (F.map (·.1))) x.1:=splL_snoc _ _ _
     have df:opn T (L.map nm) v (F.map (·.1)++[x.1])=opn T (L.map nm) v (F.map (·.1)):=by
      cases hq:F.map (·.1) with
      | nil=>exact absurd hq hP
      | cons a l=>rfl
     generalize opn T (L.map nm) v (F.map (·.1))=op at *
     generalize splL (pBv T (L.map nm) v) (F.map (·.1))=sp at *
     obtain ⟨out,row⟩:=sp
     simp only [] at ai g4 g5 g6 e4 kp dx
     have jj:0<row.length:=List.length_pos_iff.2 e4
     obtain ⟨A3,ba,rfl,j9⟩:=own_form g5
     have mq:¬ ((row.length:Int)=0):=by omega
     obtain ⟨az,bh⟩:∃ az,(Words.look S (q1,q2)).isSome=az:=⟨_,rfl⟩
     rw [bh] at cx
     have ad:splL (pBv T (L.map nm) v) (F.map (·.1)++[x.1])=if az=true then (out++[row],[x.1]) else (out,row++[x.1]):=by
      rw [hf]
      unfold splS
      rw [if_neg (by simp only [];omega),cx]
     clear hf
     obtain ⟨dl,c8,i3,jv,jw,et,kd,bx,ik,il,d5,im⟩:=zz12 ai dz bd d9 da fh cx g1 g2 g3 g4 g5;obtain ⟨a5,cf,dt,ka,dq,lv⟩:=zz6 ad df bh de e2 e4;clear ai dz bd d9 da fh cx g1 g2 g3 g4 g5 ad df bh de e2 e4
     gi_wp2_with fail
     all_goals first | (exfalso;omega) | skip
     refine (Canon.wide_round l).region_tree [4] (fun b'=>b'=b) (.seg [0,4] (.alt 1 (.seg [2,3] (.alt 5 .fin .no)) .no)) (by rfl) mixed (by kernel_rfl) ?_
     refine Canon.tr_seg ?_
     simp only [zmC,zmN,zgZ,zgS]
     go_wp2_with fail
     refine Canon.tr_to (Canon.tr_one ?_)
     simp only [zgZ,zgS]
     go_wp2_with fail
     refine Canon.tr_end (fun _ _=>rfl) (Canon.tr_seg ?_)
     simp only [zmC,zmN,zgZ,zgS]
     go_wp2_with fail
     refine Canon.tr_to (Canon.tr_one ?_)
     simp only [zgZ,zgS]
     refine wpList_look _ rfl _ _ 103 rfl 39 4 keyE Tryz.underlying103 zero_bool bc S rfl et.out.drew (q1,q2) rfl dq.out ?_
     rw [look_yes,dt.out]
     go_wp2_with fail
     refine Canon.tr_end (fun _ _=>rfl) (Canon.tr_fin (by rfl) (zF ⟨.inl ⟨_,rfl,rfl,by rw [World.cell?_drew,e0];rfl⟩,fun _ h=>by cases h⟩) ?_)
     have a9:=dl.out.below (Below.refl Z.heap.size Z).drew
     have dd:=c8.out.trans (KeepsOthers.drew Z)
     have co:Below d W Z.drew:=(dw.mono (by omega)).drew
     have ml:=ik.out
     cases az with
     | false =>
      have ad:=a5.out
      simp only [Bool.false_eq_true,if_false] at ad
      obtain ⟨W8,c2⟩:∃ W8,W8=Z.drew:=⟨_,rfl⟩
      rw [<- c2] at a9 dd co ⊢
      clear c2 r2 r3 r4 dk fl fm e0 e1 a5
      have M:=a9
      have au:=co
      have aj:=dd
      clear a9 co dd
      obtain ⟨ce,a5⟩:=zz2 aj ad;clear aj ad
      obtain ⟨jo,jr,er,k1,Q,k3,k4,k5,k6⟩:=M.len
      have hp:=k3.cell
      have ay:=M.sz
      have cn:=ec.out.b5.cell
      clear k6
      obtain ⟨a6,t,Y,b9⟩:=zz4 k1 Q k4 M;clear k1 Q k4 M
      gi_wp2_with (gi_at_builtin;(refine wpListIn_append_own_at _ rfl _ _ 28 rfl (d+7) 3 i0 (.int .i64 0) 1 8 Tryz.underlying28 hi dh di dj rfl (by decide) er _ _ rfl (k5.alloc _) ⟨W8.heap.size,0,none⟩ 1 1 [.int .i64 (x.1:Int)] rfl rfl (cell_one_new _ _ _) (by simp [Value.oneCell']) (by unfold maxLen;first | omega | (simp;done) | (simp;omega)) (by first | omega | (simp;done) | (simp;omega)) (by first | omega | (simp;done) | (simp;omega)) ?_;intro v' w1 f m _ bp;obtain ⟨g',cap',rfl⟩:=ownsRow_succ f;obtain ⟨P,-⟩:=own_append (B:=d+1+1+1) k3 (by omega) k5 ay f m;have cr:=P.cell;have cs:=P.frozen))
      obtain ⟨ap,cu,cq⟩:=b9.out.app a6.out t.out k3 Y.out f m bp
      refine ⟨ce.out.trans cu,⟨au.trans cq,ap.b5.cell.trans cn.symm⟩,?_⟩
      show SecI w d g s v T (L.map nm) ((F++[x]).map (·.1)) _
      rw [List.map_append,List.map_cons,List.map_nil]
      exact secI_of a5.out cf.out ap
     | true =>
      have ad:=a5.out
      simp only [if_true] at ad
      clear a5
      obtain ⟨j0,hj,en,eo,ep⟩:=info_parts infoRowS
      have hg:=a9.sz
      obtain ⟨ls,jq,nq,m1,m2,m3,m4,m5,m6⟩:=a9.len
      obtain ⟨A7,kf,rfl,-⟩:=own_form m5
      have lm:=m1.cell
      have lp:=m3.cell
      have lq:=m1.frozen
      have lr:=m3.frozen
      have mu:jq.length<=100000:=by omega
      clear r2 r3 r4 dk fl fm
      obtain ⟨W5,j6⟩:∃ W5,W5=Z.drew:=⟨_,rfl⟩
      rw [<- j6] at a9 dd co hg m1 m2 m3 m4 m5 lm lp lq lr ⊢
      clear j6
      clear m6 g6
      obtain ⟨ju,k8,ip,iq,l1,n6,a5⟩:=zz7 a9 dd m1 m3 m4 m5 ad;clear a9 dd m1 m3 m4 m5 ad
      gi_wp2_with (gi_at_builtin;first
       | (refine wpListIn_append_own_at _ rfl _ _ 78 rfl (d+7) 28 j0 (.slice none 0 0) 1 24 Tryz.underlying78 hj en eo ep rfl (by decide) ls _ _ rfl (m2.alloc _) ⟨W5.heap.size,0,none⟩ 1 1 [.slice A7 row.length kf] rfl rfl (cell_one_new _ _ _) (by simp [Value.oneCell']) (by unfold maxLen;omega) (by omega) (by simp;omega) ?_;intro v' w1 f m _ bp;obtain ⟨g',cap',rfl⟩:=ownsRow_succ f;obtain ⟨P,-,-,-,-,ks⟩:=own_append (B:=d+1+1) ip.out (by omega) m2 hg f m;have cr:=P.cell;have cs:=P.frozen;have fk:=ks _ _ _ (show d+1+1+1<d+7 by omega) (by omega) iq.out;have mg:=fk.cell;have mi:=fk.frozen;obtain ⟨M,aj,au,k1,Q,k3,k4⟩:=ju.out.push ip.out m2 iq.out l1.out f m;have ay:=M.sz;have hp:=k3.cell;obtain ⟨m8,b9,a6,t,Y⟩:=zz5 fk M k1 Q k4;clear fk M k1 Q k4)
       | go_loud (refine wpListIn_append_own_at _ rfl _ _ 28 rfl (d+7) 3 i0 (.int .i64 0) 1 8 Tryz.underlying28 hi dh di dj rfl (by decide) (.slice none 0 0) 0 [] rfl (World.ownsRow_nil _ _ _ _) ⟨_,0,none⟩ 1 1 [.int .i64 (x.1:Int)] rfl rfl (by have:=cell_one_new ((w1.setCell ⟨d+1+1,0,none⟩ (.slice (some ⟨g',0,none⟩) (jq.length+1) cap')).setCell ⟨d+1+1+1,0,none⟩ (.slice none 0 0)) (.int .i64 (x.1:Int)) 3;simpa using this) (by simp [Value.oneCell']) (by unfold maxLen;omega) (by omega) (by have:=ay;simp at this ⊢;omega) ?_;intro v2 w2 ag ei _ ko;obtain ⟨n9,lw,rfl⟩:=ownsRow_succ ag;obtain ⟨jm,-⟩:=own_append (B:=d+1+1+1) k3 (by omega) (World.ownsRow_nil _ _ _ _) ay ag ei;have ng:=jm.cell;have nh:=jm.frozen))
      obtain ⟨ap,cu,cq⟩:=b9.out.app (row:=[]) a6.out t.out k3 Y.out ag ei ko
      have cn:=ec.out.b5.cell
      refine ⟨(k8.out.trans aj).trans cu,⟨(co.trans au).trans cq,ap.b5.cell.trans cn.symm⟩,?_⟩
      show SecI w d g s v T (L.map nm) ((F++[x]).map (·.1)) _
      rw [List.map_append,List.map_cons,List.map_nil]
      exact secI_of a5.out cf.out ap
 case done =>
  intro D ys W hD li hI hK
  obtain ⟨kr,cc⟩:=hs.ring_in hv
  have j3:SecI w d g s v T (L.map nm) (ringAt T N v) W:=by rw [<- li];exact hI
  clear hI
  have gw:=pBv_ring (C:=L.map nm) cc
  have jk:=splL_congr gw
  have cw:=opn_ring (C:=L.map nm) cc
  have e5:∀ S,S.Perm (rows0 T (L.map nm) (ringAt T N v) (innerAt T N v))->S.Pairwise (fun x y=>¬ minL y<minL x)->Secs T (L.map nm) (hdV T (L.map nm) v) S:=fun S h1 h2=>cc.secs hs h1 h2
  have cy:rows0 T (L.map nm) (ringAt T N v) (innerAt T N v)=mrgL (openL T (L.map nm) (ringAt T N v) (innerAt T N v)) ((splL (pBv T (L.map nm) v) (ringAt T N v)).1++[(splL (pBv T (L.map nm) v) (ringAt T N v)).2]):=by unfold rows0;rw [jk]
  have d8:SecJ w d g s v (splL (pBv T (L.map nm) v) (ringAt T N v)).1 (splL (pBv T (L.map nm) v) (ringAt T N v)).2 (openL T (L.map nm) (ringAt T N v) (innerAt T N v)) W:=by rw [<- cw];exact j3
  have cb:∀ r∈(splL (pBv T (L.map nm) v) (ringAt T N v)).1++[(splL (pBv T (L.map nm) v) (ringAt T N v)).2],r≠[]/\r.length<=50000/\∀ c∈r,c<=50000:=by
   intro r hr
   have h1:=splL_lens _ _ r hr
   have h2:=hs.ring_len v
   have h3:=hs.tmax
   obtain ⟨q,hq⟩:=List.getElem?_of_mem hr
   obtain ⟨k1,Q⟩:=(splL_rows (pBv T (L.map nm) v) (ringAt T N v) kr).2.2 q r hq
   refine ⟨k1,by omega,fun c hc=>?_⟩
   obtain ⟨i,hi,rfl,_⟩:=(Q c).1 hc
   have:=((cc.mem _).1 (List.getElem_mem hi)).1
   omega
  have dx:(splL (pBv T (L.map nm) v) (ringAt T N v)).1.length<=50000:=by
   have:=splL_fewo (pBv T (L.map nm) v) (ringAt T N v)
   have:=hs.ring_len v
   have:=hs.tmax
   omega
  rw [cy] at e5
  generalize openL T (L.map nm) (ringAt T N v) (innerAt T N v)=op at *
  generalize splL (pBv T (L.map nm) v) (ringAt T N v)=sp at *
  obtain ⟨out,row⟩:=sp
  simp only [] at e5 d8 cb dx
  clear j3 gw jk cw cy
  obtain ⟨vo,V,rv,g1,g2,g3,g4,g5,g6⟩:=d8.len
  have jb:V.length<=50000:=by omega
  have fa:=d8.sz
  have r2:=g1.cell
  have r3:=g3.cell
  have dk:=g1.frozen
  have r4:=d8.b4.cell
  obtain ⟨j0,hj,en,eo,ep⟩:=info_parts infoRowS
  have f9:=cb row (by simp)
  obtain ⟨a3,ba,rfl,-,-⟩:=own_some g5 (List.length_pos_iff.2 f9.1)
  obtain ⟨ln,gz⟩:∃ ln,ln=V.length:=⟨_,rfl⟩
  rw [<- gz] at g2
  have mn:ln<=50000:=by omega
  have h6:=Lib.hid g6
  have c4:=Lib.hid gz
  clear g6 gz jb
  have nc:d+7<=D:=by omega
  obtain ⟨ca,bm,es,bx,il,d5,im,fg⟩:=zz8 e5 cb d8 g1 g3 g4 g5 f9;clear e5 cb d8 g1 g3 g4 g5 f9
  by_cases em:op=true/\0<ln
  case neg =>
   have e6:∀ S,S.Perm (out++[row])->S.Pairwise (fun x y=>¬ minL y<minL x)->Secs T (L.map nm) (hdV T (L.map nm) v) S:=fun S h1 h2=>ca.out S (by
    unfold mrgL
    rw [if_neg (fun G=>em ⟨G.1,by have:=G.2;simp at this;have:=h6.out;have:=c4.out;omega⟩)]
    exact h1) h2
   clear ca
   cases op with
   | false =>
    clear em
    have ds:=zz e6;clear e6
    gi_wp2_with (gi_at_builtin;refine wpListIn_append_own_at _ rfl _ _ 78 rfl (d+7) 28 j0 (.slice none 0 0) 1 24 Tryz.underlying78 hj en eo ep rfl (by decide) vo ln V rfl (g2.alloc _) ⟨W.heap.size,0,none⟩ 1 1 [.slice (some ⟨a3,0,none⟩) row.length ba] rfl rfl (cell_one_new _ _ _) (by simp [Value.oneCell']) (by unfold maxLen;omega) (by omega) (by simp;omega) ?_;intro v' w1 f m _ bp;obtain ⟨gr,cap',rfl⟩:=ownsRow_succ f;have el:=c4.out;subst el;obtain ⟨P,-⟩:=own_append (B:=d+1+1) bx.out (by omega) g2 fa f m;have cr:=P.cell;have cs:=P.frozen;obtain ⟨k1,Q,k4,k5,k6,k7⟩:=es.out.tell bx.out g2 d5.out f m;have ho:=k5.cell;obtain ⟨a6,t,Y,gg,d6,bz⟩:=zz6 k1 Q k4 k5 k6 k7;clear k1 Q k4 k5 k6 k7)
    have ey:=(t.out.lt gr rfl).1
    have c5:=sortrows_calls (Ls:=out++[row]) t.out (by have:=h6.out;simp;omega) (by omega) (by omega) (fam_rowAt Y.out bm.out t.out)
    refine ⟨trivial,(callsIn_wide.2 c5).mono ?_⟩
    clear c5
    rintro e W5 ⟨rfl,o,jp,c1,ac,aw,U,c3,a7⟩
    have ar:=a6.out.kept o (fun H=>by injection H with H;omega)
    have jn:=ar.cell
    have aq:W5.heap[D]? = some (.deferred (some [])):=(d6.out.trans (KeepsOthers.of_grownBy o (own_cells t.out))).same _ _ hK rfl
    have R:Below d w W5:=bz.out.grown o (by have:=bz.out.size;omega) (fun k H=>by injection H with H;omega)
    have aa:=rows_back (o':=.deferred none) (lo:=w.heap.size) (by omega) U (by rw [ac.length_eq,List.length_append];have:=h6.out;simp only [List.length_cons,List.length_nil];omega) o a7 aq rfl
    have ax:=ds.out c1 ac aw
    have av:Below w.heap.size w (W5.putObj D (.deferred none)):=by
     rw [<- bt.out]
     exact R.trans (belowK_b (w:=w0) (by omega) W5 D _ _ hD aq rfl rfl)
    obtain ⟨ao,bo,bk,fx,fc,ga,ge,ee,g7,ff,ed⟩:=zz11 aa ax av ar o ac aw U c3 a7 R;clear aa ax av ar o ac aw U c3 a7 R
    gi_wp2_with fail
    refine ⟨by simp,.inl ⟨_,_,rfl,run_takeDeferred aq,?_⟩⟩
    refine ⟨_,results_tmp rfl _ _ _,⟨.slice (some ⟨gr,0,none⟩) (V.length+1) cap',c1,rfl,bo.out,ao.out⟩,bk.out⟩
   | true =>
    have h0:ln<=0:=by have:¬ (0<ln):=fun G=>em ⟨rfl,G⟩;omega
    clear em
    have ds:=zz e6;clear e6
    gi_wp2_with (gi_at_builtin;refine wpListIn_append_own_at _ rfl _ _ 78 rfl (d+7) 28 j0 (.slice none 0 0) 1 24 Tryz.underlying78 hj en eo ep rfl (by decide) vo ln V rfl (g2.alloc _) ⟨W.heap.size,0,none⟩ 1 1 [.slice (some ⟨a3,0,none⟩) row.length ba] rfl rfl (cell_one_new _ _ _) (by simp [Value.oneCell']) (by unfold maxLen;omega) (by omega) (by simp;omega) ?_;intro v' w1 f m _ bp;obtain ⟨gr,cap',rfl⟩:=ownsRow_succ f;have el:=c4.out;subst el;obtain ⟨P,-⟩:=own_append (B:=d+1+1) bx.out (by omega) g2 fa f m;have cr:=P.cell;have cs:=P.frozen;obtain ⟨k1,Q,k4,k5,k6,k7⟩:=es.out.tell bx.out g2 d5.out f m;have ho:=k5.cell;obtain ⟨a6,t,Y,gg,d6,bz⟩:=zz6 k1 Q k4 k5 k6 k7;clear k1 Q k4 k5 k6 k7)
    all_goals first | (exfalso;omega) | skip
    have ey:=(t.out.lt gr rfl).1
    have c5:=sortrows_calls (Ls:=out++[row]) t.out (by have:=h6.out;simp;omega) (by omega) (by omega) (fam_rowAt Y.out bm.out t.out)
    refine ⟨trivial,(callsIn_wide.2 c5).mono ?_⟩
    clear c5
    rintro e W5 ⟨rfl,o,jp,c1,ac,aw,U,c3,a7⟩
    have ar:=a6.out.kept o (fun H=>by injection H with H;omega)
    have jn:=ar.cell
    have aq:W5.heap[D]? = some (.deferred (some [])):=(d6.out.trans (KeepsOthers.of_grownBy o (own_cells t.out))).same _ _ hK rfl
    have R:Below d w W5:=bz.out.grown o (by have:=bz.out.size;omega) (fun k H=>by injection H with H;omega)
    have aa:=rows_back (o':=.deferred none) (lo:=w.heap.size) (by omega) U (by rw [ac.length_eq,List.length_append];have:=h6.out;simp only [List.length_cons,List.length_nil];omega) o a7 aq rfl
    have ax:=ds.out c1 ac aw
    have av:Below w.heap.size w (W5.putObj D (.deferred none)):=by
     rw [<- bt.out]
     exact R.trans (belowK_b (w:=w0) (by omega) W5 D _ _ hD aq rfl rfl)
    obtain ⟨ao,bo,bk,fx,fc,ga,ge,ee,g7,ff,ed⟩:=zz11 aa ax av ar o ac aw U c3 a7 R;clear aa ax av ar o ac aw U c3 a7 R
    gi_wp2_with fail
    refine ⟨by simp,.inl ⟨_,_,rfl,run_takeDeferred aq,?_⟩⟩
    refine ⟨_,results_tmp rfl _ _ _,⟨.slice (some ⟨gr,0,none⟩) (V.length+1) cap',c1,rfl,bo.out,ao.out⟩,bk.out⟩
  case pos =>
   obtain ⟨rfl,mm⟩:=em
   obtain ⟨r0,out2,bg⟩:∃ r0 out2,out=r0 :: out2:=by
    have G:0<out.length:=by have:=h6.out;have:=c4.out;omega
    exact ⟨out[0],out.tail,by cases out with
     | nil=>simp at G
     | cons a l=>rfl⟩
   obtain ⟨v0,vs2,dg⟩:∃ v0 vs2,V=v0 :: vs2:=by
    have G:0<V.length:=by have:=c4.out;omega
    exact ⟨V[0],V.tail,by cases V with
     | nil=>simp at G
     | cons a l=>rfl⟩
   have cy:=bm.out r0 (by rw [bg];simp)
   have fj:=d5.out.own 0 (by simp) (by simp)
   simp only [bg,dg,List.cons_append,List.getElem_cons_zero] at fj
   obtain ⟨a0,du,rfl,-,-⟩:=own_some fj (List.length_pos_iff.2 cy.1)
   have je:out2.length=vs2.length:=by have:=h6.out;rw [bg,dg] at this;simpa using this.symm
   have he:∀ S,S.Perm ((row++r0) :: out2)->S.Pairwise (fun x y=>¬ minL y<minL x)->Secs T (L.map nm) (hdV T (L.map nm) v) S:=fun S h1 h2=>ca.out S (by
    have e:mrgL true (out++[row])=(row++r0) :: out2:=by
     unfold mrgL
     rw [if_pos ⟨rfl,by rw [bg];simp⟩,bg]
     simp
    rw [e];exact h1) h2
   clear ca
   have mp:=cy.2.1
   have mr:=fg.out.2.1
   have ms:vs2.length<=50000:=by have:=c4.out;rw [dg,List.length_cons] at this;omega
   have h4:ln=vs2.length+1:=by have:=c4.out;rw [dg,List.length_cons] at this;exact this
   obtain ⟨i5,m7,lz,g0,dr,cg,i4⟩:=zz7 he cy fj je bg dg h4;clear he cy fj je bg dg h4
   gi_wp2_with (gi_at_builtin;refine wpListIn_append_own_at _ rfl _ _ 78 rfl (d+7) 28 j0 (.slice none 0 0) 1 24 Tryz.underlying78 hj en eo ep rfl (by decide) vo ln V rfl (g2.alloc _) ⟨W.heap.size,0,none⟩ 1 1 [.slice (some ⟨a3,0,none⟩) row.length ba] rfl rfl (cell_one_new _ _ _) (by simp [Value.oneCell']) (by unfold maxLen;omega) (by omega) (by simp;omega) ?_;intro v' w1 f m _ bp;obtain ⟨gr,cap',rfl⟩:=ownsRow_succ f;have el:=c4.out;subst el;obtain ⟨P,-⟩:=own_append (B:=d+1+1) bx.out (by omega) g2 fa f m;have cr:=P.cell;have cs:=P.frozen;obtain ⟨k1,Q,k4,k5,k6,k7⟩:=es.out.tell bx.out g2 d5.out f m;have ho:=k5.cell;obtain ⟨a6,t,Y,gg,d6,bz⟩:=zz6 k1 Q k4 k5 k6 k7;clear k1 Q k4 k5 k6 k7)
   all_goals first | (exfalso;omega) | skip
   obtain ⟨W4,j5⟩:∃ W4,W4=w1.setCell ⟨d+1+1,0,none⟩ (.slice (some ⟨gr,0,none⟩) (V.length+1) cap'):=⟨_,rfl⟩
   rw [<- j5] at a6 t Y d6 bz ⊢
   clear j5 cr cs gg ho r2 r3 r4 dk
   have Q:=t.out
   have ey:=Q.lt gr rfl
   have ja:V.length+1<=cap':=by
    obtain ⟨A,c9,H,G⟩:=own_form Q
    have:cap'=c9:=by injection H
    omega
   have cd:=fam_last Y.out
   have nf:=cd.lt a3 rfl
   have h5:W4.ownsRow (d+7) 3 1 (.slice (some ⟨a0,0,none⟩) r0.length du) r0.length (r0.map Words.encI):=by
    have G:=Y.out.own 0 (by simp) (by simp)
    simp only [dr.out,cg.out,List.cons_append,List.getElem_cons_zero] at G
    exact G
   have cl:W4.cell? ⟨gr,V.length,none⟩=some (.slice (some ⟨a3,0,none⟩) row.length ba):=by rw [Q.cellAt _ (by omega)];simp
   have cz:W4.cell? ⟨gr,0,none⟩=some (.slice (some ⟨a0,0,none⟩) r0.length du):=by rw [Q.cellAt 0 (by omega),cg.out];rfl
   have kb:=a6.out.cell
   have gq:=own_add h5
   have jf:=i4.out
   obtain ⟨i0,hi,dh,di,dj⟩:=info_parts infoInt
   have mo:gr≠a3:=fun H=>by
    subst H
    rcases own_apart Q cd (by decide) with G | G
    ·cases G
    ·exact G rfl
   obtain ⟨t,bn,m0,i1,k0,dp⟩:=zz6 Q cd h5 gq ja jf;clear Q cd h5 gq ja jf
   refine Canon.wide_wide.region_tree [0] (fun b=>b=d+1+1) (.seg [0,1,2,3,4,5,6,7,8,9] (.alt 10 (.seg [11] (.alt 12 .fin .no)) .no)) (by rfl) mixed (by kernel_rfl) ?_
   refine Canon.tr_seg ?_
   simp only [zmC,zmN,zgZ,zgS]
   go_wp2_with fail
   refine Canon.tr_to (Canon.tr_one ?_)
   simp only [zgZ,zgS]
   refine wpList_append_own_at _ rfl _ _ 28 rfl (d+7) 3 i0 (.int .i64 0) 1 8 Tryz.underlying28 hi dh di dj rfl (by decide) (.slice (some ⟨a3,0,none⟩) row.length ba) row.length (row.map Words.encI) rfl (own_drew bn.out) ⟨a0,0,none⟩ r0.length du (r0.map Words.encI) rfl (by simp) (fun j u hj=>by rw [World.cell?_drew];exact i1.out j u hj) (fun u hu=>by obtain ⟨c,-,rfl⟩:=List.mem_map.1 hu;rfl) (by unfold maxLen;omega) (by omega) (by show d+7<=W4.heap.size;omega) ?_
   intro v2 w2 ag bv _ _
   have jj:=List.length_pos_iff.2 fg.out.1
   obtain ⟨a2,ci,rfl,-,-⟩:=own_some ag (Nat.add_pos_left jj _)
   have ey:=t.out.lt gr rfl
   have md:=bn.out.lt a3 rfl
   have jg:d+1+1≠a3:=by omega
   have mv:W4.heap.size<=w2.heap.size:=bv.size
   have dy:=(own_drew t.out).kept bv (own_apart (own_drew bn.out) (own_drew t.out) (by decide))
   have gs:Boxed w2 (d+1+1) 78 (.slice (some ⟨gr,0,none⟩) (V.length+1) cap'):=Boxed.kept (W:=W4.drew) a6.out bv (fun H=>jg (by simpa [Value.ownBlock] using H))
   have jc:=bv.block (d+1+1) (by show d+1+1<W4.heap.size;omega) (fun H=>jg (by simpa [Value.ownBlock] using H))
   have kz:=dy.cellAt 0 (by omega)
   rw [cg.out] at kz
   simp only [List.cons_append,List.getElem?_cons_zero] at kz
   have np:=dy.frozenAt 0
   obtain ⟨lu,i2,fz,g8,dm⟩:=zz5 dy gs jc ag bv;clear dy gs jc ag bv
   go_wp2_with fail
   refine Canon.tr_end (fun b hb=>by subst hb;exact fz.out) (Canon.tr_seg ?_)
   simp only [zmC,zmN,zgZ,zgS]
   go_wp2_with fail
   refine Canon.tr_to (Canon.tr_one ?_)
   simp only [zgZ,zgS]
   go_wp2_with fail
   refine Canon.tr_end (fun b hb=>?_) (Canon.tr_fin (by rfl) (zF ⟨.inl ⟨_,rfl,(by show d+1+1=d+1+1;rfl),by rw [World.cell?_drew,kb];rfl⟩,fun _ h=>by cases h⟩) ?_)
   ·subst hb
    exact (Below.heap_setCell w2 ⟨gr,0,none⟩ (.slice (some ⟨a2,0,none⟩) (row.length+r0.length) ci) (d+1+1) (by show d+1+1≠gr;omega)).trans fz.out
   obtain ⟨Z,j7⟩:∃ Z,Z=w2.setCell ⟨gr,0,none⟩ (.slice (some ⟨a2,0,none⟩) (row.length+r0.length) ci):=⟨_,rfl⟩
   have gy:=(KeepsOthers.drew W4).trans ((KeepsOthers.of_grownBy dm.out (own_cells (own_drew bn.out))).trans (KeepsOthers.setCell w2 ⟨gr,0,none⟩ (.slice (some ⟨a2,0,none⟩) (row.length+r0.length) ci)))
   have gu:Below d w (w2.setCell ⟨gr,0,none⟩ (.slice (some ⟨a2,0,none⟩) (row.length+r0.length) ci)):=((bz.out.drew.grown dm.out (by show d<=W4.heap.size;omega) (fun k H=>by have e8:a3=k:=(by simpa [Value.ownBlock] using H);omega))).setCell (p:=⟨gr,0,none⟩) (by show d<=gr;omega) _
   have b7:Boxed (w2.setCell ⟨gr,0,none⟩ (.slice (some ⟨a2,0,none⟩) (row.length+r0.length) ci)) (d+1+1) 78 (.slice (some ⟨gr,0,none⟩) (V.length+1) cap'):=i2.out.kept (grownBy_setCell' w2 gr _) (fun H=>by injection H with H;omega)
   have f8:=merged (b:=d+1+1) (gr:=gr) (cap':=cap') (v0:=.slice (some ⟨a0,0,none⟩) r0.length du) (vs2:=vs2) (r0:=r0) (out2:=out2) (by omega) (.slice (some ⟨gr,0,none⟩) V.length cap') (by have G:=t.out;rw [dp.out,cg.out] at G;exact G) (by have G:=Y.out;rw [cg.out,dr.out] at G;exact G) dm.out g8.out (by have G:=bm.out;rw [dr.out] at G;exact G)
   rw [<- j7] at gy gu b7 f8 ⊢
   have c7:=b7.cell
   have f7:=b7.frozen
   clear j7
   have mh:V.length<=cap':=by have:=k0.out;omega
   obtain ⟨k9,jz,jy,fd⟩:=zz4 gy gu b7 f8;clear gy gu b7 f8
   gi_wp2_with fail
   obtain ⟨nr,mt,e3,ku⟩:=fd.out
   have kq:=k9.out.trans (KeepsOthers.setCell Z ⟨d+1+1,0,none⟩ (.slice (some ⟨gr,0,none⟩) V.length cap'))
   have gv:Below d w (Z.setCell ⟨d+1+1,0,none⟩ (.slice (some ⟨gr,0,none⟩) V.length cap')):=jz.out.setCell (p:=⟨d+1+1,0,none⟩) (by show d<=d+1+1;omega) _
   have au:Boxed (Z.setCell ⟨d+1+1,0,none⟩ (.slice (some ⟨gr,0,none⟩) V.length cap')) (d+1+1) 78 (.slice (some ⟨gr,0,none⟩) V.length cap'):=jy.out.set _
   rw [<- dp.out] at e3
   clear fd
   generalize Z.setCell ⟨d+1+1,0,none⟩ (.slice (some ⟨gr,0,none⟩) V.length cap')=W8 at *
   have c5:=sortrows_calls (Ls:=(row++r0) :: out2) e3 (by rw [List.length_cons,g0.out,<- dp.out]) (by omega) (by omega) ku
   refine ⟨trivial,(callsIn_wide.2 c5).mono ?_⟩
   clear c5
   rintro e W5 ⟨rfl,o,jp,c1,ac,aw,U,c3,a7⟩
   have ar:=au.kept o (fun H=>by injection H with H;omega)
   have jn:=ar.cell
   have aq:W5.heap[D]? = some (.deferred (some [])):=((d6.out.trans kq).trans (KeepsOthers.of_grownBy o (own_cells e3))).same _ _ hK rfl
   have R:Below d w W5:=gv.grown o (by have:=gv.size;omega) (fun k H=>by injection H with H;omega)
   have aa:=rows_back (o':=.deferred none) (lo:=w.heap.size) (by omega) U (by rw [ac.length_eq,List.length_cons,g0.out,<- dp.out]) o a7 aq rfl
   have ax:=i5.out c1 ac aw
   have av:Below w.heap.size w (W5.putObj D (.deferred none)):=by
    rw [<- bt.out]
    exact R.trans (belowK_b (w:=w0) (by omega) W5 D _ _ hD aq rfl rfl)
   obtain ⟨ao,bo,bk,fx,fc,ga,ge,ee,g7,ff,ed⟩:=zz11 aa ax av ar o ac aw U c3 a7 R;clear aa ax av ar o ac aw U c3 a7 R
   gi_wp2_with fail
   refine ⟨by simp,.inl ⟨_,_,rfl,run_takeDeferred aq,?_⟩⟩
   refine ⟨_,results_tmp rfl _ _ _,⟨.slice (some ⟨gr,0,none⟩) V.length cap',c1,rfl,bo.out,ao.out⟩,bk.out⟩
 case stop =>
  rintro D c F W _ _ h _
  exact h.elim
end Go.Proofs.YtpbdcppaiafbgaaGreat
