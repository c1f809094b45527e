/- Walks: corner.New. -/
import Derived.Test.YtpbdcppaiafbgaaGreatTA
set_option maxRecDepth 100000
set_option maxHeartbeats 8000000
namespace Go.Words
open Go Go.RowKit
theorem ret_tc {P:Program} {fn:Func} {p q:Tmp} {ty:TypeId} (h:fn.results=#[.tmp p,.cell q ty]) {R:Ending->World->Prop} {a:Act} {w:World} {g:Nat} {t:TypeId} {cs:List Value} {d:TypeDesc}
  (hp:a.tmps.getD q undef=.pointer (some ⟨g,0,none⟩)) (hg:Bk w g t cs) (hu:P.underlying ty=some d)
  (hd:(match d with | .struct _ | .array _ _=>true | _=>false)=true) (hi:(P.info? ty).map (·.size)=some cs.length) (hde:a.defers=[])
  (hR:R (.returned (.tuple #[a.tmps.getD p undef,.agg cs.toArray])) w):bodyPost P fn R .ret a w:=by
 refine bodyPost_ret ?_ hde hR
 have b:a.tmps[q]?.getD undef=.pointer (some ⟨g,0,none⟩):=by simpa using hp
 simp [results,h,b,asAddr,run_loadVar_row w g t ty cs.toArray (0,0) d hg hu hd (by simpa using hi)]
theorem below_undrew {B:Nat} {a w:World} (h:Below B a w):Below B a.drew w:=⟨h.os,h.tape,h.output,h.size,h.block⟩
theorem wpList_struct {P:Program} {w:World} {ops:Array Oper} {rest:List Oper} {o:Oper} {a:Act} {Q:Exit->Act->World->Prop} (hg:o.guard=none) (t:TypeId) (parts:List (Nat × Operand)) (hop:o.op=Op.build t parts.toArray)
  (vals:List (Nat × Value)) (hv:parts.map (fun p=>(p.1,a.eval p.2))=vals) (v:Value) (hrun:∀ w,(Instr.build t vals.toArray).run P w=.ok v w) (hK:wpList P ops Q rest (a.put o.dst v) w):wpList P ops Q (o :: rest) a w:=by
 refine wpList_plain hg fun K' hK'=>?_
 have b:parts.toArray.map (fun (x:Nat × Operand)=>(x.1,a.eval x.2))=vals.toArray:=by rw [<- hv];simp
 unfold Oper.wp
 have c:(execOp a.eval o).run P w=.ok (.value v) w:=by
  simp only [execOp,hop]
  rw [b]
  simp [hrun w,Result.andThen]
 rw [c]
 exact hK' _ _ hK
theorem keep_blk {w0 w:World} {g:Nat} {t:TypeId} {cs cs':List Value} {t':TypeId} (h0:Bk w0 g t cs) (h:Bk w g t' cs') (he:t=t'/\cs=cs'):Canon.KeepU (· = g) w0 w:=by
 obtain ⟨rfl,rfl⟩:=he
 intro b a
 subst a
 exact Eq.trans h (Eq.symm h0)
theorem own_far {w:World} {base e n size g i:Nat} {t:TypeId} {v u:Value} {xs cs:List Value} (h:w.ownsRow base e size v n xs) (hb:Bk w g t cs) (hne:e≠t):(w.setCell ⟨g,i,none⟩ u).ownsRow base e size v n xs:=by
 refine h.kept (w':=w.setCell ⟨g,i,none⟩ u) (row:=some g) ⟨rfl,rfl,rfl,by simp [World.setCell],fun k _ hk=>Below.heap_setCell _ _ _ _ (fun e=>hk (by simp [e]))⟩ (.inr fun he=>?_)
 rcases h.2 with ⟨rfl,_⟩ | ⟨d,b,c,rfl,_,a,_⟩
 ·simp [Value.ownBlock] at he
 ·have:d=g:=by simpa [Value.ownBlock] using he
  subst this
  unfold Bk at hb
  rw [hb] at a
  injection a with h2
  injection h2 with _ h3
  exact hne h3.symm
theorem Bk.keep {w w':World} {g:Nat} {t:TypeId} {cs:List Value} (h:Bk w g t cs) (hb:w'.heap[g]? = w.heap[g]?):Bk w' g t cs:=hb.trans h
end Go.Words
namespace Go.Mesh
def faceFrom (T:List T3) (c:Nat) (e:Int × Int):Option Nat:=leastFrom (fun d=>eg T d == e) c (3 * T.length - c)
def cornFrom (T:List T3) (c:Nat) (v:Int):Option Nat:=leastFrom (fun d=>vt T d == v) c (3 * T.length - c)
theorem faceFrom_step (T:List T3) {c:Nat} (h:c<3 * T.length) (e:Int × Int):faceFrom T c e=if eg T c=e then some c else faceFrom T (c+1) e:=by
 unfold faceFrom
 rw [show 3 * T.length - c=(3 * T.length - (c+1))+1 from by omega,leastFrom]
 by_cases a:eg T c=e <;> simp [a]
theorem cornFrom_step (T:List T3) {c:Nat} (h:c<3 * T.length) (v:Int):cornFrom T c v=if vt T c=v then some c else cornFrom T (c+1) v:=by
 unfold cornFrom
 rw [show 3 * T.length - c=(3 * T.length - (c+1))+1 from by omega,leastFrom]
 by_cases a:vt T c=v <;> simp [a]
theorem faceFrom_end (T:List T3) (e:Int × Int):faceFrom T (3 * T.length) e=none:=by unfold faceFrom;rw [Nat.sub_self];rfl
theorem cornFrom_end (T:List T3) (v:Int):cornFrom T (3 * T.length) v=none:=by unfold cornFrom;rw [Nat.sub_self];rfl
theorem faceFrom_zero (T:List T3) (e:Int × Int):faceFrom T 0 e=facing T e:=rfl
theorem cornFrom_zero (T:List T3) (v:Int):cornFrom T 0 v=cornerOf T v:=rfl
def FirstAt (T:List T3) (n c:Nat) (F:List Nat):Prop:=F.length=n/\∀ u (h:u<F.length),F[u]=(cornFrom T c u).getD 0
theorem firstAt_start (T:List T3) (n:Nat):FirstAt T n (3 * T.length) (List.replicate n 0):=⟨by simp,fun u h=>by rw [cornFrom_end];simp⟩
theorem firstAt_step {T:List T3} {n c u:Nat} {F:List Nat} (hc:c<3 * T.length) (hu:vt T c=(u:Int)) (h:FirstAt T n (c+1) F):FirstAt T n c (F.set u c):=by
 refine ⟨by simp [h.1],fun x hx=>?_⟩
 rw [List.getElem_set,cornFrom_step T hc,hu]
 by_cases a:u=x
 ·rw [if_pos a,if_pos (by omega)];rfl
 ·rw [if_neg a,if_neg (by omega)];exact h.2 x (by simpa using hx)
theorem tEdge_at {T:List T3} {c:Nat} (h:c<3 * T.length):tEdge T (c:Int)=eg T c:=by
 have a:hasC T (c:Int):=⟨by omega,by omega⟩
 have b:hasC T (nx c:Int):=⟨by omega,by have:=nx_lt h;omega⟩
 have d:hasC T (pv c:Int):=⟨by omega,by have:=pv_lt h;omega⟩
 unfold tEdge tNext tPrev eg
 rw [if_pos a,if_pos a]
 unfold tVert
 simp [b,d]
theorem tVert_at {T:List T3} {c:Nat} (h:c<3 * T.length):tVert T (c:Int)=vt T c:=by
 have a:hasC T (c:Int):=⟨by omega,by omega⟩
 unfold tVert
 rw [if_pos a];simp
end Go.Mesh
namespace Go.Proofs.YtpbdcppaiafbgaaGreat
open Go Go.RowKit Go.Words Go.Mesh
theorem build_soup (x:Int) (A:Option Addr) (n c:Nat) (w:World):(Instr.build 24 #[(0,.int .i64 x),(1,.slice A n c)]).run Tryz.prog w=.ok (.agg #[.int .i64 x,.slice A n c]) w:=by kernel_rfl
theorem build_table (x:Int) (A A':Option Addr) (n c n' c':Nat) (m:Option Nat) (w:World):(Instr.build 120 #[(0,.agg #[.int .i64 x,.slice A n c]),(1,.map m),(2,.slice A' n' c')]).run Tryz.prog w=.ok (.agg #[.int .i64 x,.slice A n c,.map m,.slice A' n' c']) w:=by kernel_rfl
theorem info_tri:(Tryz.prog.info? 57).map (fun i=>(i.zero,i.size,i.bytes))=some (some (.agg #[.int .i64 0,.int .i64 0,.int .i64 0]),3,24):=by kernel_rfl
theorem flat3_get (L:List T3) (j:Nat) (u:Value) (h:(flat3 L)[j]? = some u):j<3 * L.length/\u=.int .i64 (Mesh.vt L j):=by
 have f:j<3 * L.length:=by
  have:=(List.getElem?_eq_some_iff.1 h).1
  rw [flat3_len] at this;omega
 refine ⟨f,?_⟩
 have c:j / 3<L.length:=by omega
 have d:=flat3_at L (j / 3) L[j / 3] (zG c)
 have a:=congrArg (fun l:List Value=>l[j % 3]?) d
 rw [List.getElem?_take,if_pos (by omega),List.getElem?_drop,show j / 3 * 3+j % 3=j from by omega,h] at a
 have e:L.getD (j / 3) (0,0,0)=L[j / 3]:=by rw [List.getD_eq_getElem?_getD,zG c];rfl
 unfold Mesh.vt
 rw [e]
 rcases mod3 j with b | b | b <;> rw [b] at a ⊢ <;> (simp at a;exact a)
theorem flat3_cells (L:List T3):∀ u∈flat3 L,u.oneCell'=true:=by
 intro u b
 obtain ⟨j,a,rfl⟩:=List.getElem_of_mem b
 obtain ⟨_,h⟩:=flat3_get L j _ (zG a)
 rw [h];rfl
theorem clone_calls {w:World} {B:Nat} {v:Value} {T:List T3} (h:Sl 3 RTri w B v T) (hT:T.length<=8192) :
  Calls Tryz.prog 76 #[v] w fun e m=>(∃ g,e=.returned g/\m.ownsRow w.heap.size 57 3 g T.length (flat3 T))/\RowKit.Below w.heap.size w m:=by
 obtain ⟨A,i,rfl,G⟩:=h.form
 cases A with
 | none =>
  have f:T=[]:=by
   cases T with
   | nil=>rfl
   | cons t T =>
    obtain ⟨b,o,d,_⟩:=h.tri_at (k:=0) (by simp)
    cases d
  subst f
  have:=AnyE.slices_Clone_nil Tryz.cloneTri 0 i w
  change Calls Tryz.prog 76 _ _ _ at this
  refine this.mono ?_
  rintro e m ⟨rfl,rfl⟩
  exact ⟨⟨_,rfl,World.ownsRow_nil _ _ _ _⟩,RowKit.Below.refl _ _⟩
 | some ad =>
  obtain ⟨C,z,p,q,r⟩:=info_parts info_tri
  have D:∀ b o,ad=⟨b,o,none⟩->∀ j u,(flat3 T)[j]? = some u->w.cell? ⟨b,o+j,none⟩=some u:=by
   intro b o H j u y
   obtain ⟨s,rfl⟩:=flat3_get T j u y
   obtain ⟨M,N,d,_,E⟩:=tri_cell h s
   rw [H] at d
   injection d with d
   injection d with d h1'
   subst d;subst h1'
   rw [<- E]
   congr 2
   omega
  by_cases f:T=[]
  ·subst f
   have L:∀ (w:World) (a:Option Addr) (n c n' c':Nat),(binOp .eql 22 (.slice a n c) (.slice none n' c')).run Tryz.prog w=.ok (.bool a.isNone) w:=fun w a n c n' c'=>Lib.run_eql_slice_nil w _ _ a n c n' c' Tryz.underlying22
   go_enter Tryz.func76,Tryz.ntmps76
   go_wp2_with (at_builtin;refine wpList_append_own _ rfl _ _ 22 rfl w.heap.size 57 C _ 3 24 Tryz.underlying22 z p q r rfl (by omega) _ _ _ rfl (World.ownsRow_made w #[] 0 zl (Nat.zero_le _) (by simp)) ad 0 i [] rfl ?qc1 ?qc2 ?qc3 ?qc4 ?qc5 ?qc6 ?_)
   case qc1=>rfl
   case qc2=>intro j u s;cases s
   case qc3=>intro u y;cases y
   case qc4=>unfold maxLen;omega
   case qc5=>omega
   case qc6=>simp
   intro g O x l J
   go_wp2
   go_ret
   exact ⟨⟨g,rfl,by simpa [flat3] using x⟩,((RowKit.Below.refl _ w).alloc zl _).grown l (by simp) (by intro k I;simp [Value.ownBlock] at I;omega)⟩
  ·obtain ⟨b,o,d,_⟩:=h.tri_at (k:=0) (by cases T with | nil=>exact absurd rfl f | cons t T=>simp)
   injection d with d
   subst d
   have:=AnyE.slices_Clone Tryz.cloneTri C _ 3 24 z p q r rfl (by omega) Tryz.sizeOf57 b o T.length i (flat3 T) w (flat3_len T) (by unfold maxLen;omega) (by omega) (D b o rfl) (flat3_cells T)
   change Calls Tryz.prog 76 _ _ _ at this
   refine this.mono ?_
   rintro e m ⟨g,rfl,K,_,F⟩
   exact ⟨⟨g,rfl,K⟩,F⟩
def Tab (w:World) (B:Nat) (v:Value) (N:Int) (T:List T3):Prop:=∃ g vt gm vf m F,v=.pointer (some ⟨g,0,none⟩)/\TabAt w B g N T vt gm vf/\Mp enc2 ok2 Words.encI w gm m/\gm<B/\(∀ e,ok2 e->Words.look m e=facing T e) /\
 Sl 1 RInt w B vf (F.map fun n:Nat=>(n:Int))/\FirstAt T N.toNat 0 F
theorem Tab.below {w w':World} {B B':Nat} {v:Value} {N:Int} {T:List T3} (h:Tab w B v N T) (hb:RowKit.Below B' w w') (hB:B<=B'):Tab w' B v N T:=by
 obtain ⟨g,vt,a,k,m,F,b,c,d,e,f,i,j⟩:=h
 exact ⟨g,vt,a,k,m,F,b,c.below hb hB,d.below hb (by omega),e,f,i.below keeps_int (hb.mono hB),j⟩
theorem Tab.le {w:World} {B:Nat} {v:Value} {N:Int} {T:List T3} (h:Tab w B v N T):B<=w.heap.size:=by
 obtain ⟨g,vt,b,e,m,F,c,a,d⟩:=h
 exact a.le
theorem eg_ok {T:List T3} {N:Int} (hs:Surf N T) {c:Nat} (hc:c<3 * T.length):ok2 (eg T c):=by
 have a:=hs.rng _ (nx_lt hc)
 have b:=hs.rng _ (pv_lt hc)
 have:=hs.nmax
 unfold ok2 eg I64
 simp only
 omega
def fvals (F:List Nat):List Value:=F.map Words.encI
theorem fvals_set (F:List Nat) (i c:Nat):(fvals F).set i (.int .i64 c)=fvals (F.set i c):=by unfold fvals;rw [List.map_set];rfl
theorem fvals_len (F:List Nat):(fvals F).length=F.length:=by unfold fvals;simp
theorem new_calls2 (v:Value) (N:Int) (T:List T3) (w:World) {B:Nat} (hB0:B<=w.heap.size) (h:Sl 3 RTri w B v T) (hN:I64 N) :
  Calls Tryz.prog 25 #[.agg #[.int .i64 N,v]] w fun e w'=>(∃ (pv:Value) (a b c:Int),e=.returned (.tuple #[pv,.agg #[.int .i64 a,.int .i64 b,.int .i64 c]])/\((Surf N T/\Tab w' w'.heap.size pv N T/\a=0/\b=0/\c=0)\/(¬ Surf N T/\pv=.pointer none)))/\RowKit.Below w.heap.size w w':=by
 obtain ⟨A,cap,rfl,dw⟩:=h.form
 have cg:=(Bk.new w 24 [.int .i64 N,.slice A T.length cap]).alloc (.cells #[.int .i64 0,.int .i64 0,.int .i64 0] 48)
 have cn:=Bk.new' (n:=w.heap.size+1) (w:=w.alloc (.cells #[.int .i64 N,.slice A T.length cap] 24)) 48 [.int .i64 0,.int .i64 0,.int .i64 0] (by simp)
 have bu:=((RowKit.Below.refl w.heap.size w).alloc zl (.cells #[.int .i64 N,.slice A T.length cap] 24)).alloc (by simp) (.cells #[.int .i64 0,.int .i64 0,.int .i64 0] 48)
 have hc:=check_calls _ N T ((w.alloc (.cells #[.int .i64 N,.slice A T.length cap] 24)).alloc (.cells #[.int .i64 0,.int .i64 0,.int .i64 0] 48)) (B:=B) (by simp;omega) (h.below keeps_tri (bu.mono hB0)) hN
 obtain ⟨Hh,bo,bp,d8⟩:=zz4 h cg cn hc;clear h cg cn hc
 go_enter Tryz.func25,Tryz.ntmps25
 go_wp2_with fail
 refine d8.out.mono ?_
 rintro e w1 ⟨⟨k,x,y,rfl,ff,hk,dj⟩,bb⟩
 have dk:=bb.size
 simp only [World.size_alloc] at dk
 have an:=below_call bu bb bu.size
 have bv:=bo.out.below bb (by simp;omega)
 have bx:=bp.out.below bb (by simp)
 have hk:k=0↔Surf N T:=hk.trans cert_iff
 obtain ⟨gw,de⟩:∃ gw:Nat,gw=w1.heap.size:=⟨_,rfl⟩
 have cr:=Bk.new' (n:=gw) (w:=w1) 48 [.int .i64 k,.int .i64 x,.int .i64 y] de
 clear bu
 obtain ⟨c5,b5,ah,bq⟩:=zz4 hk bv bx cr;clear hk bv bx cr
 by_cases df:k=0
 case neg =>
  have dx:¬ Surf N T:=fun h9=>df (c5.out.2 h9)
  go_wp2
  have H:=ah.out.alloc (.cells #[.int .i64 k,.int .i64 x,.int .i64 y] 48)
  have c0:=bq.out
  subst de
  have e0:(w1.alloc (.cells #[.int .i64 k,.int .i64 x,.int .i64 y] 48)).cell? ⟨w1.heap.size,0,none⟩=some (.int .i64 k):=c0.cell 0
  have e1:(w1.alloc (.cells #[.int .i64 k,.int .i64 x,.int .i64 y] 48)).cell? ⟨w1.heap.size,1,none⟩=some (.int .i64 x):=c0.cell 1
  have e2:(w1.alloc (.cells #[.int .i64 k,.int .i64 x,.int .i64 y] 48)).cell? ⟨w1.heap.size,2,none⟩=some (.int .i64 y):=c0.cell 2
  have am:=an.alloc an.size (.cells #[.int .i64 k,.int .i64 x,.int .i64 y] 48)
  obtain ⟨d,ay⟩:∃ d:World,d=w1.alloc (.cells #[.int .i64 k,.int .i64 x,.int .i64 y] 48):=⟨_,rfl⟩
  rw [<- ay] at am H e0 e1 e2 ⊢
  clear ay c0
  have f1:=H.frozen
  have r0:d.cell? ⟨w.heap.size+1,0,none⟩=some (.int .i64 0):=H.cell 0
  have r1:d.cell? ⟨w.heap.size+1,1,none⟩=some (.int .i64 0):=H.cell 1
  have r2:d.cell? ⟨w.heap.size+1,2,none⟩=some (.int .i64 0):=H.cell 2
  have Y:=zz H;clear H
  go_wp2_with (first | (refine Canon.wp_region_text mixed (by kernel_rfl) ?_) | (refine Canon.chk (by rfl) ?_))
  refine ret_tc rfl rfl (((Y.out.set 0 _).set 1 _).set 2 _).drew Tryz.underlying48 rfl (by kernel_rfl) rfl ⟨⟨_,_,_,_,rfl,.inr ⟨dx,rfl⟩⟩,(((am.setCell (by simp) _).setCell (by simp) _).setCell (by simp) _).drew⟩
 case pos =>
  go_wp2
  subst df
  have hs:Surf N T:=c5.out.1 rfl
  obtain ⟨n,rfl⟩:∃ n:Nat,N=n:=⟨N.toNat,by have:=hs.n0;omega⟩
  have hT:=hs.tmax
  have hn:n<=4096:=by have:=hs.nmax;omega
  obtain ⟨rfl,rfl⟩:=dj rfl
  have H:=ah.out.alloc (.cells #[.int .i64 0,.int .i64 0,.int .i64 0] 48)
  have bw:=b5.out.alloc (.cells #[.int .i64 0,.int .i64 0,.int .i64 0] 48)
  have am:=an.alloc an.size (.cells #[.int .i64 0,.int .i64 0,.int .i64 0] 48)
  obtain ⟨c8,Y,W⟩:=zz3 hs H bw;clear hs H bw
  obtain ⟨d,ay⟩:∃ d:World,d=w1.alloc (.cells #[.int .i64 0,.int .i64 0,.int .i64 0] 48):=⟨_,rfl⟩
  have ej:w.heap.size+3<=d.heap.size:=by rw [ay];simp;omega
  rw [<- ay] at am Y W ⊢
  clear ay
  have dd:∀ X:World,RowKit.Below d.heap.size d X->Calls Tryz.prog 76 #[.slice A T.length cap] X fun e w'=>(∃ v',e=.returned v'/\w'.ownsRow X.heap.size 57 3 v' T.length (flat3 T))/\RowKit.Below X.heap.size X w' :=
   fun X hX=>clone_calls (Hh.out.below keeps_tri ((am.mono hB0).trans (hX.mono (by omega)))) hT
  have ee:=@run_makeMap Tryz.prog
  have ec:=run_make_rep (P:=Tryz.prog) 28 Tryz.underlying28 info_int rfl n (by omega) (by omega)
  have b0:d.cell? ⟨w.heap.size,0,none⟩=some (.int .i64 n):=W.out.cell 0
  have b1:d.cell? ⟨w.heap.size,1,none⟩=some (.slice A T.length cap):=W.out.cell 1
  have a9:=zz dd;clear dd
  refine Canon.wp_region_tree [1,3,8] (· < d.heap.size) (.seg [0,1,2,3,7,8] (.alt 4 (.seg [5] (.alt 6 (.alt 9 (.seg [10] (.alt 11 (.seg [12] .fin) .no)) .no) (.alt 9 (.alt 6 (.seg [10] (.alt 11 (.seg [12] .fin) .no)) .no) .no))) (.alt 6 (.alt 4 (.seg [5] (.alt 9 (.seg [10] (.alt 11 (.seg [12] .fin) .no)) .no)) (.alt 9 (.alt 4 (.seg [5,10] (.alt 11 (.seg [12] .fin) .no)) .no) .no)) (.alt 9 (.alt 4 (.seg [5] (.alt 6 (.seg [10] (.alt 11 (.seg [12] .fin) .no)) .no)) (.alt 6 (.alt 4 (.seg [5,10] (.alt 11 (.seg [12] .fin) .no)) .no) .no)) .no)))) mixed (by kernel_rfl) ?_
  refine Canon.tr_seg ?_
  simp only [zmC,zmN,zgZ,zgS]
  go_wp2_with fail
  refine Canon.tr_to (Canon.tr_alt ?c4 (Canon.tr_alt ?c6 (Canon.tr_alt ?c9 Canon.tr_no)))
  case' c4 =>
   simp only [zgZ,zgS]
   go_wp2_with fail
   refine (a9.out (d.drew) (by repeat (first | exact Below.refl _ _ | assumption | refine Below.drew ?_ | refine Below.setCell ?_ (by first | omega | (simp <;> omega)) _ | refine Below.alloc ?_ (by first | omega | (simp <;> omega)) _ | refine below_drewN ?_ _))).mono ?_
   rintro e f ⟨⟨vt,rfl,ho⟩,C⟩
   obtain ⟨s,g,rfl,a8⟩:=own_form ho
   have bc:=C.size
   have hK:Below d.heap.size d f:=below_call (B:=d.heap.size) (show Below d.heap.size d (d.drew) from (by repeat (first | exact Below.refl _ _ | assumption | refine Below.drew ?_ | refine Below.setCell ?_ (by first | omega | (simp <;> omega)) _ | refine Below.alloc ?_ (by first | omega | (simp <;> omega)) _ | refine below_drewN ?_ _))) C (by first | exact zl | (simp <;> omega))
   have bd:=hK.size
   go_wp2_with fail
   refine Canon.tr_end (keep_below (below_undrew (by repeat (first | exact Below.refl _ _ | assumption | refine Below.drew ?_ | refine Below.setCell ?_ (by first | omega | (simp <;> omega)) _ | refine Below.alloc ?_ (by first | omega | (simp <;> omega)) _ | refine below_drewN ?_ _)))) (Canon.tr_seg ?_)
   simp only [zmC,zmN,zgZ,zgS]
   refine wpList_struct rfl 24 [(0,.tmp 14),(1,.tmp 17)] rfl [(0,.int .i64 n),(1,.slice s T.length g)] rfl (.agg #[.int .i64 n,.slice s T.length g]) (build_soup _ _ _ _) ?_
   go_wp2_with fail
   refine Canon.tr_to (Canon.tr_alt ?d41 (Canon.tr_alt ?d42 Canon.tr_no))
   case' d41 =>
    simp only [zgZ,zgS]
    go_wp2_with fail
    refine Canon.tr_end (keep_below (below_undrew (by repeat (first | exact Below.refl _ _ | assumption | refine Below.drew ?_ | refine Below.setCell ?_ (by first | omega | (simp <;> omega)) _ | refine Below.alloc ?_ (by first | omega | (simp <;> omega)) _ | refine below_drewN ?_ _)))) (Canon.tr_one ?_)
    simp only [zgZ,zgS]
    go_wp2_with fail
    refine Canon.tr_end (keep_below (below_undrew (by repeat (first | exact Below.refl _ _ | assumption | refine Below.drew ?_ | refine Below.setCell ?_ (by first | omega | (simp <;> omega)) _ | refine Below.alloc ?_ (by first | omega | (simp <;> omega)) _ | refine below_drewN ?_ _)))) (Canon.tr_seg ?_)
    simp only [zmC,zmN,zgZ,zgS]
    refine wpList_struct rfl 120 [(0,.tmp 18),(1,.tmp 19),(2,.tmp 22)] rfl [(0,.agg #[.int .i64 n,.slice s T.length g]),(1,.map (some (f.heap.size))),(2,.slice (some ⟨f.heap.size+1,0,none⟩) n n)] rfl (.agg #[.int .i64 n,.slice s T.length g,.map (some (f.heap.size)),.slice (some ⟨f.heap.size+1,0,none⟩) n n]) (build_table _ _ _ _ _ _ _ _) ?_
    go_wp2_with fail
    refine Canon.tr_to (Canon.tr_one ?_)
    simp only [zgZ,zgS]
    go_wp2_with fail
    refine Canon.tr_end (keep_below (below_undrew (by repeat (first | exact Below.refl _ _ | assumption | refine Below.drew ?_ | refine Below.setCell ?_ (by first | omega | (simp <;> omega)) _ | refine Below.alloc ?_ (by first | omega | (simp <;> omega)) _ | refine below_drewN ?_ _)))) (Canon.tr_seg ?_)
    simp only [zmC,zmN,zgZ,zgS]
    go_wp2_with fail
    have oF:World.ownsRow (((f).alloc (.map #[] 0)).alloc (.cells (Array.replicate n (.int .i64 0)) 3)) w.heap.size 57 3 (.slice s T.length g) T.length (flat3 T):=(((own_base (base':=w.heap.size) ho (by first | omega | (simp <;> omega)))).alloc (.map #[] 0)).alloc (.cells (Array.replicate n (.int .i64 0)) 3)
    have U:Mp enc2 ok2 Words.encI (((f).alloc (.map #[] 0)).alloc (.cells (Array.replicate n (.int .i64 0)) 3)) (f.heap.size) ([]:List ((Int × Int) × Nat)):=((Mp.new' (enc:=enc2) (ok:=ok2) (ev:=Words.encI) (κ:=Int × Int) (n:=f.heap.size) (w:=f) (by simp))).alloc (.cells (Array.replicate n (.int .i64 0)) 3)
    have S:Bk (((f).alloc (.map #[] 0)).alloc (.cells (Array.replicate n (.int .i64 0)) 3)) (f.heap.size+1) 3 (List.replicate n (.int .i64 0)):=(Bk.new' (n:=f.heap.size+1) (w:=(f).alloc (.map #[] 0)) 3 (List.replicate n (.int .i64 0)) (by simp))
    have kF:Below d.heap.size d (((f).alloc (.map #[] 0)).alloc (.cells (Array.replicate n (.int .i64 0)) 3)):=(by repeat (first | exact Below.refl _ _ | assumption | refine Below.drew ?_ | refine Below.setCell ?_ (by first | omega | (simp <;> omega)) _ | refine Below.alloc ?_ (by first | omega | (simp <;> omega)) _ | refine below_drewN ?_ _))
    obtain ⟨t,r⟩:∃ t:Nat,t=f.heap.size+1+1:=⟨_,rfl⟩
    have qT:t=(((f).alloc (.map #[] 0)).alloc (.cells (Array.replicate n (.int .i64 0)) 3)).heap.size:=by first | exact r | (rw [r];simp)
    rw [<- r]
    clear r
    obtain ⟨M,G⟩:∃ M:World,M=((f).alloc (.map #[] 0)).alloc (.cells (Array.replicate n (.int .i64 0)) 3):=⟨_,rfl⟩
    rw [<- G] at oF U S kF qT
    rw [<- G]
    have qF:w.heap.size+2<=f.heap.size/\w.heap.size+2<=f.heap.size+1:=by omega
    refine Canon.tr_to (Canon.tr_fin (by rfl) (zF ⟨.inl ⟨_,rfl,(by show w.heap.size<d.heap.size;omega),by rw [World.cell?_drew,b0];rfl⟩,zF ⟨.inl ⟨_,rfl,(by show w.heap.size<d.heap.size;omega),by rw [World.cell?_drew,b1];rfl⟩,zF ⟨.inl ⟨_,rfl,(by show w.heap.size<d.heap.size;omega),by rw [World.cell?_drew,b0];rfl⟩,fun _ h=>by cases h⟩⟩⟩) ?_)
    obtain ⟨j,D⟩:∃ j:Nat,j=f.heap.size+1:=⟨_,rfl⟩
    rw [<- D] at S qF ⊢
    clear D
    obtain ⟨z,E⟩:∃ z:Nat,z=f.heap.size:=⟨_,rfl⟩
    rw [<- E] at U qF ⊢
    clear E
   case' d42 =>
    simp only [zgZ,zgS]
    go_wp2_with fail
    refine Canon.tr_end (keep_below (below_undrew (by repeat (first | exact Below.refl _ _ | assumption | refine Below.drew ?_ | refine Below.setCell ?_ (by first | omega | (simp <;> omega)) _ | refine Below.alloc ?_ (by first | omega | (simp <;> omega)) _ | refine below_drewN ?_ _)))) (Canon.tr_one ?_)
    simp only [zgZ,zgS]
    go_wp2_with fail
    refine Canon.tr_end (keep_below (below_undrew (by repeat (first | exact Below.refl _ _ | assumption | refine Below.drew ?_ | refine Below.setCell ?_ (by first | omega | (simp <;> omega)) _ | refine Below.alloc ?_ (by first | omega | (simp <;> omega)) _ | refine below_drewN ?_ _)))) (Canon.tr_seg ?_)
    simp only [zmC,zmN,zgZ,zgS]
    refine wpList_struct rfl 120 [(0,.tmp 18),(1,.tmp 19),(2,.tmp 22)] rfl [(0,.agg #[.int .i64 n,.slice s T.length g]),(1,.map (some (f.heap.size+1))),(2,.slice (some ⟨f.heap.size,0,none⟩) n n)] rfl (.agg #[.int .i64 n,.slice s T.length g,.map (some (f.heap.size+1)),.slice (some ⟨f.heap.size,0,none⟩) n n]) (build_table _ _ _ _ _ _ _ _) ?_
    go_wp2_with fail
    refine Canon.tr_to (Canon.tr_one ?_)
    simp only [zgZ,zgS]
    go_wp2_with fail
    refine Canon.tr_end (keep_below (below_undrew (by repeat (first | exact Below.refl _ _ | assumption | refine Below.drew ?_ | refine Below.setCell ?_ (by first | omega | (simp <;> omega)) _ | refine Below.alloc ?_ (by first | omega | (simp <;> omega)) _ | refine below_drewN ?_ _)))) (Canon.tr_seg ?_)
    simp only [zmC,zmN,zgZ,zgS]
    go_wp2_with fail
    have oF:World.ownsRow (((f).alloc (.cells (Array.replicate n (.int .i64 0)) 3)).alloc (.map #[] 0)) w.heap.size 57 3 (.slice s T.length g) T.length (flat3 T):=(((own_base (base':=w.heap.size) ho (by first | omega | (simp <;> omega)))).alloc (.cells (Array.replicate n (.int .i64 0)) 3)).alloc (.map #[] 0)
    have U:Mp enc2 ok2 Words.encI (((f).alloc (.cells (Array.replicate n (.int .i64 0)) 3)).alloc (.map #[] 0)) (f.heap.size+1) ([]:List ((Int × Int) × Nat)):=(Mp.new' (enc:=enc2) (ok:=ok2) (ev:=Words.encI) (κ:=Int × Int) (n:=f.heap.size+1) (w:=(f).alloc (.cells (Array.replicate n (.int .i64 0)) 3)) (by simp))
    have S:Bk (((f).alloc (.cells (Array.replicate n (.int .i64 0)) 3)).alloc (.map #[] 0)) (f.heap.size) 3 (List.replicate n (.int .i64 0)):=((Bk.new' (n:=f.heap.size) (w:=f) 3 (List.replicate n (.int .i64 0)) (by simp))).alloc (.map #[] 0)
    have kF:Below d.heap.size d (((f).alloc (.cells (Array.replicate n (.int .i64 0)) 3)).alloc (.map #[] 0)):=(by repeat (first | exact Below.refl _ _ | assumption | refine Below.drew ?_ | refine Below.setCell ?_ (by first | omega | (simp <;> omega)) _ | refine Below.alloc ?_ (by first | omega | (simp <;> omega)) _ | refine below_drewN ?_ _))
    obtain ⟨t,r⟩:∃ t:Nat,t=f.heap.size+1+1:=⟨_,rfl⟩
    have qT:t=(((f).alloc (.cells (Array.replicate n (.int .i64 0)) 3)).alloc (.map #[] 0)).heap.size:=by first | exact r | (rw [r];simp)
    rw [<- r]
    clear r
    obtain ⟨M,G⟩:∃ M:World,M=((f).alloc (.cells (Array.replicate n (.int .i64 0)) 3)).alloc (.map #[] 0):=⟨_,rfl⟩
    rw [<- G] at oF U S kF qT
    rw [<- G]
    have qF:w.heap.size+2<=f.heap.size+1/\w.heap.size+2<=f.heap.size:=by omega
    refine Canon.tr_to (Canon.tr_fin (by rfl) (zF ⟨.inl ⟨_,rfl,(by show w.heap.size<d.heap.size;omega),by rw [World.cell?_drew,b0];rfl⟩,zF ⟨.inl ⟨_,rfl,(by show w.heap.size<d.heap.size;omega),by rw [World.cell?_drew,b1];rfl⟩,zF ⟨.inl ⟨_,rfl,(by show w.heap.size<d.heap.size;omega),by rw [World.cell?_drew,b0];rfl⟩,fun _ h=>by cases h⟩⟩⟩) ?_)
    obtain ⟨z,E⟩:∃ z:Nat,z=f.heap.size+1:=⟨_,rfl⟩
    rw [<- E] at U qF ⊢
    clear E
    obtain ⟨j,D⟩:∃ j:Nat,j=f.heap.size:=⟨_,rfl⟩
    rw [<- D] at S qF ⊢
    clear D
  case' c6 =>
   simp only [zgZ,zgS]
   go_wp2_with fail
   refine Canon.tr_end (keep_below (below_undrew (by repeat (first | exact Below.refl _ _ | assumption | refine Below.drew ?_ | refine Below.setCell ?_ (by first | omega | (simp <;> omega)) _ | refine Below.alloc ?_ (by first | omega | (simp <;> omega)) _ | refine below_drewN ?_ _)))) (Canon.tr_alt ?d61 (Canon.tr_alt ?d62 Canon.tr_no))
   case' d61 =>
    simp only [zgZ,zgS]
    go_wp2_with fail
    refine (a9.out ((d.drew).alloc (.map #[] 0)) (by repeat (first | exact Below.refl _ _ | assumption | refine Below.drew ?_ | refine Below.setCell ?_ (by first | omega | (simp <;> omega)) _ | refine Below.alloc ?_ (by first | omega | (simp <;> omega)) _ | refine below_drewN ?_ _))).mono ?_
    rintro e f ⟨⟨vt,rfl,ho⟩,C⟩
    obtain ⟨s,g,rfl,a8⟩:=own_form ho
    have bc:=C.size
    have hK:Below d.heap.size d f:=below_call (B:=d.heap.size) (show Below d.heap.size d ((d.drew).alloc (.map #[] 0)) from (by repeat (first | exact Below.refl _ _ | assumption | refine Below.drew ?_ | refine Below.setCell ?_ (by first | omega | (simp <;> omega)) _ | refine Below.alloc ?_ (by first | omega | (simp <;> omega)) _ | refine below_drewN ?_ _))) C (by first | exact zl | (simp <;> omega))
    have bd:=hK.size
    go_wp2_with fail
    refine Canon.tr_end (keep_below (below_undrew (by repeat (first | exact Below.refl _ _ | assumption | refine Below.drew ?_ | refine Below.setCell ?_ (by first | omega | (simp <;> omega)) _ | refine Below.alloc ?_ (by first | omega | (simp <;> omega)) _ | refine below_drewN ?_ _)))) (Canon.tr_seg ?_)
    simp only [zmC,zmN,zgZ,zgS]
    refine wpList_struct rfl 24 [(0,.tmp 14),(1,.tmp 17)] rfl [(0,.int .i64 n),(1,.slice s T.length g)] rfl (.agg #[.int .i64 n,.slice s T.length g]) (build_soup _ _ _ _) ?_
    go_wp2_with fail
    refine Canon.tr_to (Canon.tr_one ?_)
    simp only [zgZ,zgS]
    go_wp2_with fail
    refine Canon.tr_end (keep_below (below_undrew (by repeat (first | exact Below.refl _ _ | assumption | refine Below.drew ?_ | refine Below.setCell ?_ (by first | omega | (simp <;> omega)) _ | refine Below.alloc ?_ (by first | omega | (simp <;> omega)) _ | refine below_drewN ?_ _)))) (Canon.tr_seg ?_)
    simp only [zmC,zmN,zgZ,zgS]
    refine wpList_struct rfl 120 [(0,.tmp 18),(1,.tmp 19),(2,.tmp 22)] rfl [(0,.agg #[.int .i64 n,.slice s T.length g]),(1,.map (some (d.heap.size))),(2,.slice (some ⟨f.heap.size,0,none⟩) n n)] rfl (.agg #[.int .i64 n,.slice s T.length g,.map (some (d.heap.size)),.slice (some ⟨f.heap.size,0,none⟩) n n]) (build_table _ _ _ _ _ _ _ _) ?_
    go_wp2_with fail
    refine Canon.tr_to (Canon.tr_one ?_)
    simp only [zgZ,zgS]
    go_wp2_with fail
    refine Canon.tr_end (keep_below (below_undrew (by repeat (first | exact Below.refl _ _ | assumption | refine Below.drew ?_ | refine Below.setCell ?_ (by first | omega | (simp <;> omega)) _ | refine Below.alloc ?_ (by first | omega | (simp <;> omega)) _ | refine below_drewN ?_ _)))) (Canon.tr_seg ?_)
    simp only [zmC,zmN,zgZ,zgS]
    go_wp2_with fail
    have oF:World.ownsRow ((f).alloc (.cells (Array.replicate n (.int .i64 0)) 3)) w.heap.size 57 3 (.slice s T.length g) T.length (flat3 T):=((own_base (base':=w.heap.size) ho (by first | omega | (simp <;> omega)))).alloc (.cells (Array.replicate n (.int .i64 0)) 3)
    have U:Mp enc2 ok2 Words.encI ((f).alloc (.cells (Array.replicate n (.int .i64 0)) 3)) (d.heap.size) ([]:List ((Int × Int) × Nat)):=(((Mp.new' (enc:=enc2) (ok:=ok2) (ev:=Words.encI) (κ:=Int × Int) (n:=d.heap.size) (w:=d.drew) (by simp))).below C (by first | omega | (simp <;> omega))).alloc (.cells (Array.replicate n (.int .i64 0)) 3)
    have S:Bk ((f).alloc (.cells (Array.replicate n (.int .i64 0)) 3)) (f.heap.size) 3 (List.replicate n (.int .i64 0)):=(Bk.new' (n:=f.heap.size) (w:=f) 3 (List.replicate n (.int .i64 0)) (by simp))
    have kF:Below d.heap.size d ((f).alloc (.cells (Array.replicate n (.int .i64 0)) 3)):=(by repeat (first | exact Below.refl _ _ | assumption | refine Below.drew ?_ | refine Below.setCell ?_ (by first | omega | (simp <;> omega)) _ | refine Below.alloc ?_ (by first | omega | (simp <;> omega)) _ | refine below_drewN ?_ _))
    obtain ⟨t,r⟩:∃ t:Nat,t=f.heap.size+1:=⟨_,rfl⟩
    have qT:t=((f).alloc (.cells (Array.replicate n (.int .i64 0)) 3)).heap.size:=by first | exact r | (rw [r];simp)
    rw [<- r]
    clear r
    obtain ⟨M,G⟩:∃ M:World,M=(f).alloc (.cells (Array.replicate n (.int .i64 0)) 3):=⟨_,rfl⟩
    rw [<- G] at oF U S kF qT
    rw [<- G]
    have qF:w.heap.size+2<=d.heap.size/\w.heap.size+2<=f.heap.size:=by omega
    refine Canon.tr_to (Canon.tr_fin (by rfl) (zF ⟨.inl ⟨_,rfl,(by show w.heap.size<d.heap.size;omega),by rw [World.cell?_drew,b0];rfl⟩,zF ⟨.inl ⟨_,rfl,(by show w.heap.size<d.heap.size;omega),by rw [World.cell?_drew,b1];rfl⟩,zF ⟨.inl ⟨_,rfl,(by show w.heap.size<d.heap.size;omega),by rw [World.cell?_drew,b0];rfl⟩,fun _ h=>by cases h⟩⟩⟩) ?_)
    obtain ⟨z,E⟩:∃ z:Nat,z=d.heap.size:=⟨_,rfl⟩
    rw [<- E] at U qF ⊢
    clear E
    obtain ⟨j,D⟩:∃ j:Nat,j=f.heap.size:=⟨_,rfl⟩
    rw [<- D] at S qF ⊢
    clear D
   case' d62 =>
    simp only [zgZ,zgS]
    go_wp2_with fail
    refine Canon.tr_end (keep_below (below_undrew (by repeat (first | exact Below.refl _ _ | assumption | refine Below.drew ?_ | refine Below.setCell ?_ (by first | omega | (simp <;> omega)) _ | refine Below.alloc ?_ (by first | omega | (simp <;> omega)) _ | refine below_drewN ?_ _)))) (Canon.tr_one ?_)
    simp only [zgZ,zgS]
    go_wp2_with fail
    refine (a9.out (((d.drew).alloc (.map #[] 0)).alloc (.cells (Array.replicate n (.int .i64 0)) 3)) (by repeat (first | exact Below.refl _ _ | assumption | refine Below.drew ?_ | refine Below.setCell ?_ (by first | omega | (simp <;> omega)) _ | refine Below.alloc ?_ (by first | omega | (simp <;> omega)) _ | refine below_drewN ?_ _))).mono ?_
    rintro e f ⟨⟨vt,rfl,ho⟩,C⟩
    obtain ⟨s,g,rfl,a8⟩:=own_form ho
    have bc:=C.size
    have hK:Below d.heap.size d f:=below_call (B:=d.heap.size) (show Below d.heap.size d (((d.drew).alloc (.map #[] 0)).alloc (.cells (Array.replicate n (.int .i64 0)) 3)) from (by repeat (first | exact Below.refl _ _ | assumption | refine Below.drew ?_ | refine Below.setCell ?_ (by first | omega | (simp <;> omega)) _ | refine Below.alloc ?_ (by first | omega | (simp <;> omega)) _ | refine below_drewN ?_ _))) C (by first | exact zl | (simp <;> omega))
    have bd:=hK.size
    go_wp2_with fail
    refine Canon.tr_end (keep_below (below_undrew (by repeat (first | exact Below.refl _ _ | assumption | refine Below.drew ?_ | refine Below.setCell ?_ (by first | omega | (simp <;> omega)) _ | refine Below.alloc ?_ (by first | omega | (simp <;> omega)) _ | refine below_drewN ?_ _)))) (Canon.tr_seg ?_)
    simp only [zmC,zmN,zgZ,zgS]
    refine wpList_struct rfl 24 [(0,.tmp 14),(1,.tmp 17)] rfl [(0,.int .i64 n),(1,.slice s T.length g)] rfl (.agg #[.int .i64 n,.slice s T.length g]) (build_soup _ _ _ _) ?_
    refine wpList_struct rfl 120 [(0,.tmp 18),(1,.tmp 19),(2,.tmp 22)] rfl [(0,.agg #[.int .i64 n,.slice s T.length g]),(1,.map (some (d.heap.size))),(2,.slice (some ⟨d.heap.size+1,0,none⟩) n n)] rfl (.agg #[.int .i64 n,.slice s T.length g,.map (some (d.heap.size)),.slice (some ⟨d.heap.size+1,0,none⟩) n n]) (build_table _ _ _ _ _ _ _ _) ?_
    go_wp2_with fail
    refine Canon.tr_to (Canon.tr_one ?_)
    simp only [zgZ,zgS]
    go_wp2_with fail
    refine Canon.tr_end (keep_below (below_undrew (by repeat (first | exact Below.refl _ _ | assumption | refine Below.drew ?_ | refine Below.setCell ?_ (by first | omega | (simp <;> omega)) _ | refine Below.alloc ?_ (by first | omega | (simp <;> omega)) _ | refine below_drewN ?_ _)))) (Canon.tr_seg ?_)
    simp only [zmC,zmN,zgZ,zgS]
    go_wp2_with fail
    have oF:World.ownsRow (f) w.heap.size 57 3 (.slice s T.length g) T.length (flat3 T):=(own_base (base':=w.heap.size) ho (by first | omega | (simp <;> omega)))
    have U:Mp enc2 ok2 Words.encI (f) (d.heap.size) ([]:List ((Int × Int) × Nat)):=(((Mp.new' (enc:=enc2) (ok:=ok2) (ev:=Words.encI) (κ:=Int × Int) (n:=d.heap.size) (w:=d.drew) (by simp))).alloc (.cells (Array.replicate n (.int .i64 0)) 3)).below C (by first | omega | (simp <;> omega))
    have S:Bk (f) (d.heap.size+1) 3 (List.replicate n (.int .i64 0)):=((Bk.new' (n:=d.heap.size+1) (w:=(d.drew).alloc (.map #[] 0)) 3 (List.replicate n (.int .i64 0)) (by simp))).below C (by first | omega | (simp <;> omega))
    have kF:Below d.heap.size d (f):=(by repeat (first | exact Below.refl _ _ | assumption | refine Below.drew ?_ | refine Below.setCell ?_ (by first | omega | (simp <;> omega)) _ | refine Below.alloc ?_ (by first | omega | (simp <;> omega)) _ | refine below_drewN ?_ _))
    obtain ⟨t,r⟩:∃ t:Nat,t=f.heap.size:=⟨_,rfl⟩
    have qT:t=(f).heap.size:=by first | exact r | (rw [r];simp)
    rw [<- r]
    clear r
    obtain ⟨M,G⟩:∃ M:World,M=f:=⟨_,rfl⟩
    rw [<- G] at oF U S kF qT
    rw [<- G]
    have qF:w.heap.size+2<=d.heap.size/\w.heap.size+2<=d.heap.size+1:=by omega
    refine Canon.tr_to (Canon.tr_fin (by rfl) (zF ⟨.inl ⟨_,rfl,(by show w.heap.size<d.heap.size;omega),by rw [World.cell?_drew,b0];rfl⟩,zF ⟨.inl ⟨_,rfl,(by show w.heap.size<d.heap.size;omega),by rw [World.cell?_drew,b1];rfl⟩,zF ⟨.inl ⟨_,rfl,(by show w.heap.size<d.heap.size;omega),by rw [World.cell?_drew,b0];rfl⟩,fun _ h=>by cases h⟩⟩⟩) ?_)
    obtain ⟨j,D⟩:∃ j:Nat,j=d.heap.size+1:=⟨_,rfl⟩
    rw [<- D] at S qF ⊢
    clear D
    obtain ⟨z,E⟩:∃ z:Nat,z=d.heap.size:=⟨_,rfl⟩
    rw [<- E] at U qF ⊢
    clear E
  case' c9 =>
   simp only [zgZ,zgS]
   go_wp2_with fail
   refine Canon.tr_end (keep_below (below_undrew (by repeat (first | exact Below.refl _ _ | assumption | refine Below.drew ?_ | refine Below.setCell ?_ (by first | omega | (simp <;> omega)) _ | refine Below.alloc ?_ (by first | omega | (simp <;> omega)) _ | refine below_drewN ?_ _)))) (Canon.tr_alt ?d91 (Canon.tr_alt ?d92 Canon.tr_no))
   case' d91 =>
    simp only [zgZ,zgS]
    go_wp2_with fail
    refine (a9.out ((d.drew).alloc (.cells (Array.replicate n (.int .i64 0)) 3)) (by repeat (first | exact Below.refl _ _ | assumption | refine Below.drew ?_ | refine Below.setCell ?_ (by first | omega | (simp <;> omega)) _ | refine Below.alloc ?_ (by first | omega | (simp <;> omega)) _ | refine below_drewN ?_ _))).mono ?_
    rintro e f ⟨⟨vt,rfl,ho⟩,C⟩
    obtain ⟨s,g,rfl,a8⟩:=own_form ho
    have bc:=C.size
    have hK:Below d.heap.size d f:=below_call (B:=d.heap.size) (show Below d.heap.size d ((d.drew).alloc (.cells (Array.replicate n (.int .i64 0)) 3)) from (by repeat (first | exact Below.refl _ _ | assumption | refine Below.drew ?_ | refine Below.setCell ?_ (by first | omega | (simp <;> omega)) _ | refine Below.alloc ?_ (by first | omega | (simp <;> omega)) _ | refine below_drewN ?_ _))) C (by first | exact zl | (simp <;> omega))
    have bd:=hK.size
    go_wp2_with fail
    refine Canon.tr_end (keep_below (below_undrew (by repeat (first | exact Below.refl _ _ | assumption | refine Below.drew ?_ | refine Below.setCell ?_ (by first | omega | (simp <;> omega)) _ | refine Below.alloc ?_ (by first | omega | (simp <;> omega)) _ | refine below_drewN ?_ _)))) (Canon.tr_seg ?_)
    simp only [zmC,zmN,zgZ,zgS]
    refine wpList_struct rfl 24 [(0,.tmp 14),(1,.tmp 17)] rfl [(0,.int .i64 n),(1,.slice s T.length g)] rfl (.agg #[.int .i64 n,.slice s T.length g]) (build_soup _ _ _ _) ?_
    go_wp2_with fail
    refine Canon.tr_to (Canon.tr_one ?_)
    simp only [zgZ,zgS]
    go_wp2_with fail
    refine Canon.tr_end (keep_below (below_undrew (by repeat (first | exact Below.refl _ _ | assumption | refine Below.drew ?_ | refine Below.setCell ?_ (by first | omega | (simp <;> omega)) _ | refine Below.alloc ?_ (by first | omega | (simp <;> omega)) _ | refine below_drewN ?_ _)))) (Canon.tr_seg ?_)
    simp only [zmC,zmN,zgZ,zgS]
    refine wpList_struct rfl 120 [(0,.tmp 18),(1,.tmp 19),(2,.tmp 22)] rfl [(0,.agg #[.int .i64 n,.slice s T.length g]),(1,.map (some (f.heap.size))),(2,.slice (some ⟨d.heap.size,0,none⟩) n n)] rfl (.agg #[.int .i64 n,.slice s T.length g,.map (some (f.heap.size)),.slice (some ⟨d.heap.size,0,none⟩) n n]) (build_table _ _ _ _ _ _ _ _) ?_
    go_wp2_with fail
    refine Canon.tr_to (Canon.tr_one ?_)
    simp only [zgZ,zgS]
    go_wp2_with fail
    refine Canon.tr_end (keep_below (below_undrew (by repeat (first | exact Below.refl _ _ | assumption | refine Below.drew ?_ | refine Below.setCell ?_ (by first | omega | (simp <;> omega)) _ | refine Below.alloc ?_ (by first | omega | (simp <;> omega)) _ | refine below_drewN ?_ _)))) (Canon.tr_seg ?_)
    simp only [zmC,zmN,zgZ,zgS]
    go_wp2_with fail
    have oF:World.ownsRow ((f).alloc (.map #[] 0)) w.heap.size 57 3 (.slice s T.length g) T.length (flat3 T):=((own_base (base':=w.heap.size) ho (by first | omega | (simp <;> omega)))).alloc (.map #[] 0)
    have U:Mp enc2 ok2 Words.encI ((f).alloc (.map #[] 0)) (f.heap.size) ([]:List ((Int × Int) × Nat)):=(Mp.new' (enc:=enc2) (ok:=ok2) (ev:=Words.encI) (κ:=Int × Int) (n:=f.heap.size) (w:=f) (by simp))
    have S:Bk ((f).alloc (.map #[] 0)) (d.heap.size) 3 (List.replicate n (.int .i64 0)):=(((Bk.new' (n:=d.heap.size) (w:=d.drew) 3 (List.replicate n (.int .i64 0)) (by simp))).below C (by first | omega | (simp <;> omega))).alloc (.map #[] 0)
    have kF:Below d.heap.size d ((f).alloc (.map #[] 0)):=(by repeat (first | exact Below.refl _ _ | assumption | refine Below.drew ?_ | refine Below.setCell ?_ (by first | omega | (simp <;> omega)) _ | refine Below.alloc ?_ (by first | omega | (simp <;> omega)) _ | refine below_drewN ?_ _))
    obtain ⟨t,r⟩:∃ t:Nat,t=f.heap.size+1:=⟨_,rfl⟩
    have qT:t=((f).alloc (.map #[] 0)).heap.size:=by first | exact r | (rw [r];simp)
    rw [<- r]
    clear r
    obtain ⟨M,G⟩:∃ M:World,M=(f).alloc (.map #[] 0):=⟨_,rfl⟩
    rw [<- G] at oF U S kF qT
    rw [<- G]
    have qF:w.heap.size+2<=f.heap.size/\w.heap.size+2<=d.heap.size:=by omega
    refine Canon.tr_to (Canon.tr_fin (by rfl) (zF ⟨.inl ⟨_,rfl,(by show w.heap.size<d.heap.size;omega),by rw [World.cell?_drew,b0];rfl⟩,zF ⟨.inl ⟨_,rfl,(by show w.heap.size<d.heap.size;omega),by rw [World.cell?_drew,b1];rfl⟩,zF ⟨.inl ⟨_,rfl,(by show w.heap.size<d.heap.size;omega),by rw [World.cell?_drew,b0];rfl⟩,fun _ h=>by cases h⟩⟩⟩) ?_)
    obtain ⟨z,E⟩:∃ z:Nat,z=f.heap.size:=⟨_,rfl⟩
    rw [<- E] at U qF ⊢
    clear E
    obtain ⟨j,D⟩:∃ j:Nat,j=d.heap.size:=⟨_,rfl⟩
    rw [<- D] at S qF ⊢
    clear D
   case' d92 =>
    simp only [zgZ,zgS]
    go_wp2_with fail
    refine Canon.tr_end (keep_below (below_undrew (by repeat (first | exact Below.refl _ _ | assumption | refine Below.drew ?_ | refine Below.setCell ?_ (by first | omega | (simp <;> omega)) _ | refine Below.alloc ?_ (by first | omega | (simp <;> omega)) _ | refine below_drewN ?_ _)))) (Canon.tr_one ?_)
    simp only [zgZ,zgS]
    go_wp2_with fail
    refine (a9.out (((d.drew).alloc (.cells (Array.replicate n (.int .i64 0)) 3)).alloc (.map #[] 0)) (by repeat (first | exact Below.refl _ _ | assumption | refine Below.drew ?_ | refine Below.setCell ?_ (by first | omega | (simp <;> omega)) _ | refine Below.alloc ?_ (by first | omega | (simp <;> omega)) _ | refine below_drewN ?_ _))).mono ?_
    rintro e f ⟨⟨vt,rfl,ho⟩,C⟩
    obtain ⟨s,g,rfl,a8⟩:=own_form ho
    have bc:=C.size
    have hK:Below d.heap.size d f:=below_call (B:=d.heap.size) (show Below d.heap.size d (((d.drew).alloc (.cells (Array.replicate n (.int .i64 0)) 3)).alloc (.map #[] 0)) from (by repeat (first | exact Below.refl _ _ | assumption | refine Below.drew ?_ | refine Below.setCell ?_ (by first | omega | (simp <;> omega)) _ | refine Below.alloc ?_ (by first | omega | (simp <;> omega)) _ | refine below_drewN ?_ _))) C (by first | exact zl | (simp <;> omega))
    have bd:=hK.size
    go_wp2_with fail
    refine Canon.tr_end (keep_below (below_undrew (by repeat (first | exact Below.refl _ _ | assumption | refine Below.drew ?_ | refine Below.setCell ?_ (by first | omega | (simp <;> omega)) _ | refine Below.alloc ?_ (by first | omega | (simp <;> omega)) _ | refine below_drewN ?_ _)))) (Canon.tr_seg ?_)
    simp only [zmC,zmN,zgZ,zgS]
    refine wpList_struct rfl 24 [(0,.tmp 14),(1,.tmp 17)] rfl [(0,.int .i64 n),(1,.slice s T.length g)] rfl (.agg #[.int .i64 n,.slice s T.length g]) (build_soup _ _ _ _) ?_
    refine wpList_struct rfl 120 [(0,.tmp 18),(1,.tmp 19),(2,.tmp 22)] rfl [(0,.agg #[.int .i64 n,.slice s T.length g]),(1,.map (some (d.heap.size+1))),(2,.slice (some ⟨d.heap.size,0,none⟩) n n)] rfl (.agg #[.int .i64 n,.slice s T.length g,.map (some (d.heap.size+1)),.slice (some ⟨d.heap.size,0,none⟩) n n]) (build_table _ _ _ _ _ _ _ _) ?_
    go_wp2_with fail
    refine Canon.tr_to (Canon.tr_one ?_)
    simp only [zgZ,zgS]
    go_wp2_with fail
    refine Canon.tr_end (keep_below (below_undrew (by repeat (first | exact Below.refl _ _ | assumption | refine Below.drew ?_ | refine Below.setCell ?_ (by first | omega | (simp <;> omega)) _ | refine Below.alloc ?_ (by first | omega | (simp <;> omega)) _ | refine below_drewN ?_ _)))) (Canon.tr_seg ?_)
    simp only [zmC,zmN,zgZ,zgS]
    go_wp2_with fail
    have oF:World.ownsRow (f) w.heap.size 57 3 (.slice s T.length g) T.length (flat3 T):=(own_base (base':=w.heap.size) ho (by first | omega | (simp <;> omega)))
    have U:Mp enc2 ok2 Words.encI (f) (d.heap.size+1) ([]:List ((Int × Int) × Nat)):=((Mp.new' (enc:=enc2) (ok:=ok2) (ev:=Words.encI) (κ:=Int × Int) (n:=d.heap.size+1) (w:=(d.drew).alloc (.cells (Array.replicate n (.int .i64 0)) 3)) (by simp))).below C (by first | omega | (simp <;> omega))
    have S:Bk (f) (d.heap.size) 3 (List.replicate n (.int .i64 0)):=(((Bk.new' (n:=d.heap.size) (w:=d.drew) 3 (List.replicate n (.int .i64 0)) (by simp))).alloc (.map #[] 0)).below C (by first | omega | (simp <;> omega))
    have kF:Below d.heap.size d (f):=(by repeat (first | exact Below.refl _ _ | assumption | refine Below.drew ?_ | refine Below.setCell ?_ (by first | omega | (simp <;> omega)) _ | refine Below.alloc ?_ (by first | omega | (simp <;> omega)) _ | refine below_drewN ?_ _))
    obtain ⟨t,r⟩:∃ t:Nat,t=f.heap.size:=⟨_,rfl⟩
    have qT:t=(f).heap.size:=by first | exact r | (rw [r];simp)
    rw [<- r]
    clear r
    obtain ⟨M,G⟩:∃ M:World,M=f:=⟨_,rfl⟩
    rw [<- G] at oF U S kF qT
    rw [<- G]
    have qF:w.heap.size+2<=d.heap.size+1/\w.heap.size+2<=d.heap.size:=by omega
    refine Canon.tr_to (Canon.tr_fin (by rfl) (zF ⟨.inl ⟨_,rfl,(by show w.heap.size<d.heap.size;omega),by rw [World.cell?_drew,b0];rfl⟩,zF ⟨.inl ⟨_,rfl,(by show w.heap.size<d.heap.size;omega),by rw [World.cell?_drew,b1];rfl⟩,zF ⟨.inl ⟨_,rfl,(by show w.heap.size<d.heap.size;omega),by rw [World.cell?_drew,b0];rfl⟩,fun _ h=>by cases h⟩⟩⟩) ?_)
    obtain ⟨z,E⟩:∃ z:Nat,z=d.heap.size+1:=⟨_,rfl⟩
    rw [<- E] at U qF ⊢
    clear E
    obtain ⟨j,D⟩:∃ j:Nat,j=d.heap.size:=⟨_,rfl⟩
    rw [<- D] at S qF ⊢
    clear D
  all_goals
   have E:=U.lt
   have D:=S.lt
   have tA:=Bk.new' (n:=t) (w:=M) 120 [.int .i64 n,.slice s T.length g,.map (some z),.slice (some ⟨j,0,none⟩) n n] qT
   have oA:=oF.alloc (.cells #[.int .i64 n,.slice s T.length g,.map (some z),.slice (some ⟨j,0,none⟩) n n] 120)
   have mA:=U.alloc (.cells #[.int .i64 n,.slice s T.length g,.map (some z),.slice (some ⟨j,0,none⟩) n n] 120)
   have fA:=S.alloc (.cells #[.int .i64 n,.slice s T.length g,.map (some z),.slice (some ⟨j,0,none⟩) n n] 120)
   have rA:=(Y.out.below kF (by omega)).alloc (.cells #[.int .i64 n,.slice s T.length g,.map (some z),.slice (some ⟨j,0,none⟩) n n] 120)
   have bA:=(W.out.below kF (by omega)).alloc (.cells #[.int .i64 n,.slice s T.length g,.map (some z),.slice (some ⟨j,0,none⟩) n n] 120)
   have kz:=kF.size
   have kA:Below w.heap.size w (M.alloc (.cells #[.int .i64 n,.slice s T.length g,.map (some z),.slice (some ⟨j,0,none⟩) n n] 120)):=(am.trans (kF.mono (by omega))).alloc (by omega) _
   obtain ⟨ws,cs⟩:∃ ws:World,ws=M.alloc (.cells #[.int .i64 n,.slice s T.length g,.map (some z),.slice (some ⟨j,0,none⟩) n n] 120):=⟨_,rfl⟩
   have fe:t<ws.heap.size:=by rw [cs,qT];simp
   rw [<- cs] at tA oA mA fA rA bA kA ⊢
   rw [<- qT] at E D kz
   clear cs G kF oF U S qT hK C ho bc bd a8 ec ee b0 b1
   have s0:ws.cell? ⟨w.heap.size,1,none⟩=some (.slice A T.length cap):=bA.cell 1
   have cf:List.replicate n (Value.int .i64 0)=fvals (List.replicate n 0):=by unfold fvals;rw [List.map_replicate];rfl
   rw [cf] at fA
   have cq:∀ wr:World,wr.ownsRow w.heap.size 57 3 (.slice s T.length g) T.length (flat3 T)->Sl 3 RTri wr wr.heap.size (.slice s T.length g) T:=fun wr h=>Sl.of_own h fun i a hi=>flat3_at T i a hi
   obtain ⟨ea,e8,e7,e5,e9,fc,er,K⟩:=zz8 tA oA mA fA rA bA cf cq;clear tA oA mA fA rA bA cf cq
   have f7:w.heap.size+3<=t:=by omega
   clear kz am ej hk c5 dj a9 bq Y W Hh bo bp d8 b5 ah bb an dk dw hB0 d f M
   go_wp2_with fail
   go_loopw [6] (fun i wr=>∃ (c:Nat) (m:List ((Int × Int) × Nat)) (F:List Nat),c<=3 * T.length/\i=.int .i64 ((c:Int) - 1)/\Bk wr t 120 [.int .i64 n,.slice s T.length g,.map (some z),.slice (some ⟨j,0,none⟩) n n]/\wr.ownsRow w.heap.size 57 3 (.slice s T.length g) T.length (flat3 T) /\
     Mp enc2 ok2 Words.encI wr z m/\Bk wr j 3 (fvals F)/\FirstAt T n c F/\(∀ e,ok2 e->Words.look m e=faceFrom T c e)/\Bk wr (w.heap.size+1) 48 [.int .i64 0,.int .i64 0,.int .i64 0]/\Below w.heap.size w wr)
    (fun i _=>(intOf i+1).toNat)
   case atStart=>exact ⟨3 * T.length,[],List.replicate n 0,by omega,by simp,ea.out,e8.out,e7.out,e5.out,firstAt_start T n,fun e _=>by rw [faceFrom_end];rfl,e9.out,kA⟩
   case round =>
    obtain ⟨c,m,F,hc,rfl,tB,oB,mB,fB,hF,hm,rB,kB⟩:=hrel
    have hz:=kB.size
    have ao:=tB.lt
    have tab:TabAt wr wr.heap.size t n T (.slice s T.length g) z (.slice (some ⟨j,0,none⟩) n n):=⟨tB,K.out wr oB,hT,ao,zl⟩
    cases c with
    | zero =>
     have f1:=rB.frozen
     have r0:wr.cell? ⟨w.heap.size+1,0,none⟩=some (.int .i64 0):=rB.cell 0
     have r1:wr.cell? ⟨w.heap.size+1,1,none⟩=some (.int .i64 0):=rB.cell 1
     have r2:wr.cell? ⟨w.heap.size+1,2,none⟩=some (.int .i64 0):=rB.cell 2
     have f5:=fB.lt
     have f6:=mB.lt
     have L:∀ J:World,J.heap.size=wr.heap.size->Bk J t 120 [.int .i64 n,.slice s T.length g,.map (some z),.slice (some ⟨j,0,none⟩) n n]->J.ownsRow w.heap.size 57 3 (.slice s T.length g) T.length (flat3 T)->Mp enc2 ok2 Words.encI J z m->Bk J j 3 (fvals F)->Tab J J.heap.size (.pointer (some ⟨t,0,none⟩)) n T:=by
      intro J fg tB oB mB fB
      have dc:F.length=n:=hF.1
      refine ⟨t,_,z,_,m,F,rfl,⟨tB,K.out J oB,hT,by omega,zl⟩,mB,by omega,fun e he=>by rw [hm e he,faceFrom_zero],?_,by rw [Int.toNat_natCast];exact hF⟩
      have dh:=Sl.of_block (sz:=1) (R:=RInt) (cap:=n) (l:=F.map fun n:Nat=>(n:Int)) fB (by simp [dc]) (fun i a hi=>?_)
      ·rw [List.length_map,dc] at dh
       exact dh
      ·rw [List.getElem?_map,Option.map_eq_some_iff] at hi
       obtain ⟨x,hx,rfl⟩:=hi
       have eh:=(List.getElem?_eq_some_iff.1 hx).1
       refine ⟨by rw [fvals_len];omega,?_⟩
       unfold RInt fvals
       rw [Nat.mul_one,List.drop_eq_getElem_cons (by simpa using eh)]
       have h9:F[i]=x:=(List.getElem?_eq_some_iff.1 hx).2
       simp [h9,Words.encI]
     obtain ⟨bt,bs,br,bn,ak,ds,dr,c3,b7⟩:=zz9 tB oB mB fB rB tab L hF hm;clear tB oB mB fB rB tab L hF hm
     go_wp2
     refine ret_tc rfl rfl (((ak.out.set 0 _).set 1 _).set 2 _) Tryz.underlying48 rfl (by kernel_rfl) rfl ⟨⟨_,_,_,_,rfl,.inl ⟨c8.out,?_,rfl,rfl,rfl⟩⟩,((kB.setCell (by simp) _).setCell (by simp) _).setCell (by simp) _⟩
     refine dr.out _ (by simp) ?_ ?_ ?_ ?_
     ·exact ((bt.out.far (by simp;omega) _).far (by simp;omega) _).far (by simp;omega) _
     ·exact own_far (own_far (own_far bs.out ak.out (by decide)) (ak.out.set 0 _) (by decide)) ((ak.out.set 0 _).set 1 _) (by decide)
     ·exact ((br.out.far (by simp;omega) _).far (by simp;omega) _).far (by simp;omega) _
     ·exact ((bn.out.far (by simp;omega) _).far (by simp;omega) _).far (by simp;omega) _
    | succ c =>
     have ad:c<3 * T.length:=by omega
     have eb:((c+1:Nat):Int) - 1=(c:Int):=by omega
     rw [eb]
     have ci:=mB.lt
     have ch:=fB.lt
     have dg:=rB.lt
     have a0:t≠j:=by omega
     have ag:z≠j:=by
      rintro rfl
      obtain ⟨es,ep,af,_⟩:=mB.block
      have da:=fB
      unfold Bk at da
      rw [da] at af
      cases af
     have t1:wr.cell? ⟨t,2,none⟩=some (.map (some z)):=tB.cell 2
     have f8:=c8.out.rng c ad
     obtain ⟨u,hu⟩:∃ u:Nat,Mesh.vt T c=u:=⟨(Mesh.vt T c).toNat,by omega⟩
     have di:u<n:=by omega
     have b4:=fun e=>faceFrom_step T ad e
     have cm:=eg_ok c8.out ad
     have b3:∀ J:World,TabAt J J.heap.size t n T (.slice s T.length g) z (.slice (some ⟨j,0,none⟩) n n)->Calls Tryz.prog 26 #[.pointer (some ⟨t,0,none⟩),.int .i64 (c:Int)] J fun e w'=>e=.returned (enc2 (eg T c))/\RowKit.Below J.heap.size J w':=by
      intro J ct
      have:=edge_calls ct (c:Int)
      rw [tEdge_at ad] at this
      exact this
     have bz:∀ J:World,TabAt J J.heap.size t n T (.slice s T.length g) z (.slice (some ⟨j,0,none⟩) n n)->Calls Tryz.prog 77 #[.pointer (some ⟨t,0,none⟩),.int .i64 (c:Int)] J fun e w'=>e=.returned (.int .i64 (u:Int))/\w'=J:=by
      intro J ct
      have:=vertex_calls ct (c:Int)
      rw [tVert_at ad,hu] at this
      exact this
     have ba:=firstAt_step ad hu hF
     generalize eg T c=ed at b4 cm b3
     have dq:=tB.drew
     have dm:=oB.drew
     have dl:=mB.drew
     have db:=fB.drew
     have dp:=rB.drew
     obtain ⟨bt,bs,br,bn,ak,ds,c3,b7,a6,c7,b6,a7⟩:=zz12 tB oB mB fB rB tab hF hm b4 cm b3 bz;obtain ⟨a2,fd,V,cb,et,eq,eu⟩:=zz7 ba hu dq dm dl db dp;clear tB oB mB fB rB tab hF hm b4 cm b3 bz ba hu dq dm dl db dp
     go_wp2_with fail
     refine Canon.wp_region_tree [3] (· = t) (.seg [0,4,5,7] (.alt 1 (.seg [2,3] (.alt 6 (.alt 8 .fin .no) .no)) (.alt 6 (.alt 1 (.seg [2,3] (.alt 8 .fin .no)) .no) .no))) mixed (by kernel_rfl) ?_
     refine Canon.tr_seg ?_
     simp only [zmC,zmN,zgZ,zgS]
     go_wp2_with fail
     refine Canon.tr_to (Canon.tr_alt ?_ (Canon.tr_alt ?_ Canon.tr_no))
     ·simp only [zgZ,zgS]
      go_wp2_with fail
      refine Canon.tr_end (keep_blk V.out V.out ⟨rfl,rfl⟩) (Canon.tr_seg ?_)
      simp only [zmC,zmN,zgZ,zgS]
      go_wp2_with fail
      refine Canon.tr_to (Canon.tr_one ?_)
      simp only [zgZ,zgS]
      go_wp2_with fail
      refine (b6.out _ ⟨V.out,K.out wr.drew cb.out,hT,ao,zl⟩).mono ?_
      rintro e f ⟨rfl,af⟩
      have I:Below wr.heap.size wr f:=((Below.refl wr.heap.size wr).drew).trans af
      have t2:=bt.out.below I ao
      have o2:=own_below bs.out I zl
      have m2:=br.out.below I ci
      have f2:=bn.out.below I ch
      have r2:=ak.out.below I dg
      have k2:=kB.trans (I.mono hz)
      have eo:f.cell? ⟨t,2,none⟩=some (.map (some z)):=t2.cell 2
      clear af I
      obtain ⟨ax,ca,Z,c2,cc⟩:=zz5 t2 o2 m2 f2 r2;clear t2 o2 m2 f2 r2
      go_wp2_with fail
      refine Canon.tr_end (keep_blk V.out ax.out ⟨rfl,rfl⟩) (Canon.tr_one ?_)
      simp only [zgZ,zgS]
      refine wpList_put _ rfl (.tmp 37) (.tmp 40) (.tmp 41) 118 rfl 39 3 keyE Tryz.underlying118 z m rfl Z.out ed rfl c7.out c rfl ?_
      intro w3 m3 g3 cp
      have t3:=ax.out.kept_map Z.out g3
      have o3:=own_kept_map ca.out Z.out g3
      have f3:=c2.out.kept_map Z.out g3
      have r3:=cc.out.kept_map Z.out g3
      have k3:=k2.grown g3 k2.size (fun q hq=>by injection hq with hq;omega)
      have bg:w3.cell? ⟨t,3,none⟩=some (.slice (some ⟨j,0,none⟩) n n):=t3.cell 3
      clear g3 cp
      obtain ⟨Q,ai,b8,O,b9⟩:=zz5 t3 o3 m3 f3 r3;clear t3 o3 m3 f3 r3
      go_wp2_with fail
      refine Canon.tr_end (keep_blk V.out Q.out ⟨rfl,rfl⟩) (Canon.tr_fin (by rfl) (zF ⟨.inl ⟨_,rfl,rfl,by rw [World.cell?_drew,t1];rfl⟩,fun _ h=>by cases h⟩) ?_)
      have f9:=O.out.frozen
      obtain ⟨v9,d9⟩:∃ v9,w3.cell? ⟨j,u,none⟩=some v9:=by rw [O.out.cell];exact ⟨_,zG (by rw [fvals_len,c3.out.1];exact di)⟩
      have bh:=Q.out.drew
      have be:=ai.out.drew
      obtain ⟨o,aj⟩:=zz2 bh be;clear bh be
      go_wp2_with fail
      refine Canon.wp_region_tree [3] (· = t) (.seg [0,4,5,7] (.alt 1 (.seg [2,3] (.alt 6 (.seg [8] (.alt 9 .fin .no)) .no)) (.alt 6 (.alt 1 (.seg [2,3,8] (.alt 9 .fin .no)) .no) .no))) mixed (by kernel_rfl) ?_
      refine Canon.tr_seg ?_
      simp only [zmC,zmN,zgZ,zgS]
      go_wp2_with fail
      refine Canon.tr_to (Canon.tr_alt ?_ (Canon.tr_alt ?_ Canon.tr_no))
      ·simp only [zgZ,zgS]
       go_wp2_with fail
       refine Canon.tr_end (keep_blk o.out o.out ⟨rfl,rfl⟩) (Canon.tr_seg ?_)
       simp only [zmC,zmN,zgZ,zgS]
       go_wp2_with fail
       refine Canon.tr_to (Canon.tr_one ?_)
       simp only [zgZ,zgS]
       go_wp2_with fail
       refine (a7.out _ ⟨o.out,K.out _ aj.out,hT,Q.out.lt,zl⟩).mono ?_
       rintro e w4 ⟨rfl,rfl⟩
       go_wp2_with fail
       refine Canon.tr_end (keep_blk o.out o.out ⟨rfl,rfl⟩) (Canon.tr_seg ?_)
       simp only [zmC,zmN,zgZ,zgS]
       go_wp2_with fail
       refine Canon.tr_to (Canon.tr_one ?_)
       simp only [zgZ,zgS]
       go_wp2_with fail
       refine Canon.tr_end (keep_blk o.out (o.out.far a0 _) ⟨rfl,rfl⟩) (Canon.tr_fin (by rfl) (zF ⟨.inl ⟨_,rfl,rfl,by rw [World.cell?_drew,bg];rfl⟩,fun _ h=>by cases h⟩) ?_)
       go_wp2
       refine ⟨⟨c,Words.put m ed c,F.set u c,by omega,by simp,?_,?_,?_,?_,a2.out,?_,?_,?_⟩,by simp [intOf]⟩
       ·exact Q.out.far (p:=⟨j,u,none⟩) a0 _
       ·exact own_far ai.out O.out (by decide)
       ·exact (b8.out.far (p:=⟨j,u,none⟩) ag _).drew
       ·have:=O.out.set u (.int .i64 (c:Int));rw [fvals_set] at this;exact this
       ·intro e he;rw [a6.out,<- b7.out e he,Words.look_put]
       ·exact b9.out.far (p:=⟨j,u,none⟩) (by show _≠j;omega) _
       ·exact (k3.setCell (p:=⟨j,u,none⟩) (by show _<=j;omega) _).drew
      ·simp only [zgZ,zgS]
       go_wp2_with fail
       refine (a7.out _ ⟨o.out,K.out _ aj.out,hT,Q.out.lt,zl⟩).mono ?_
       rintro e w4 ⟨rfl,rfl⟩
       go_wp2_with fail
       refine Canon.tr_end (keep_blk o.out o.out ⟨rfl,rfl⟩) (Canon.tr_one ?_)
       simp only [zgZ,zgS]
       go_wp2_with fail
       refine Canon.tr_end (keep_blk o.out o.out ⟨rfl,rfl⟩) (Canon.tr_seg ?_)
       simp only [zmC,zmN,zgZ,zgS]
       go_wp2_with fail
       refine Canon.tr_to (Canon.tr_one ?_)
       simp only [zgZ,zgS]
       go_wp2_with fail
       refine Canon.tr_end (keep_blk o.out (o.out.far a0 _) ⟨rfl,rfl⟩) (Canon.tr_fin (by rfl) (zF ⟨.inl ⟨_,rfl,rfl,by rw [World.cell?_drew,bg];rfl⟩,fun _ h=>by cases h⟩) ?_)
       go_wp2
       refine ⟨⟨c,Words.put m ed c,F.set u c,by omega,by simp,?_,?_,?_,?_,a2.out,?_,?_,?_⟩,by simp [intOf]⟩
       ·exact Q.out.far (p:=⟨j,u,none⟩) a0 _
       ·exact own_far ai.out O.out (by decide)
       ·exact (b8.out.far (p:=⟨j,u,none⟩) ag _).drew
       ·have:=O.out.set u (.int .i64 (c:Int));rw [fvals_set] at this;exact this
       ·intro e he;rw [a6.out,<- b7.out e he,Words.look_put]
       ·exact b9.out.far (p:=⟨j,u,none⟩) (by show _≠j;omega) _
       ·exact (k3.setCell (p:=⟨j,u,none⟩) (by show _<=j;omega) _).drew
     ·simp only [zgZ,zgS]
      go_wp2_with fail
      refine (b6.out _ ⟨V.out,K.out wr.drew cb.out,hT,ao,zl⟩).mono ?_
      rintro e f ⟨rfl,af⟩
      have I:Below wr.heap.size wr f:=((Below.refl wr.heap.size wr).drew).trans af
      have t2:=bt.out.below I ao
      have o2:=own_below bs.out I zl
      have m2:=br.out.below I ci
      have f2:=bn.out.below I ch
      have r2:=ak.out.below I dg
      have k2:=kB.trans (I.mono hz)
      have eo:f.cell? ⟨t,2,none⟩=some (.map (some z)):=t2.cell 2
      clear af I
      obtain ⟨ax,ca,Z,c2,cc⟩:=zz5 t2 o2 m2 f2 r2;clear t2 o2 m2 f2 r2
      go_wp2_with fail
      refine Canon.tr_end (keep_blk V.out ax.out ⟨rfl,rfl⟩) (Canon.tr_one ?_)
      simp only [zgZ,zgS]
      go_wp2_with fail
      refine Canon.tr_end (keep_blk V.out ax.out ⟨rfl,rfl⟩) (Canon.tr_seg ?_)
      simp only [zmC,zmN,zgZ,zgS]
      go_wp2_with fail
      refine Canon.tr_to (Canon.tr_one ?_)
      simp only [zgZ,zgS]
      refine wpList_put _ rfl (.tmp 37) (.tmp 40) (.tmp 41) 118 rfl 39 3 keyE Tryz.underlying118 z m rfl Z.out ed rfl c7.out c rfl ?_
      intro w3 m3 g3 cp
      have t3:=ax.out.kept_map Z.out g3
      have o3:=own_kept_map ca.out Z.out g3
      have f3:=c2.out.kept_map Z.out g3
      have r3:=cc.out.kept_map Z.out g3
      have k3:=k2.grown g3 k2.size (fun q hq=>by injection hq with hq;omega)
      have bg:w3.cell? ⟨t,3,none⟩=some (.slice (some ⟨j,0,none⟩) n n):=t3.cell 3
      clear g3 cp
      obtain ⟨Q,ai,b8,O,b9⟩:=zz5 t3 o3 m3 f3 r3;clear t3 o3 m3 f3 r3
      go_wp2_with fail
      refine Canon.tr_end (keep_blk V.out Q.out ⟨rfl,rfl⟩) (Canon.tr_fin (by rfl) (zF ⟨.inl ⟨_,rfl,rfl,by rw [World.cell?_drew,t1];rfl⟩,fun _ h=>by cases h⟩) ?_)
      have f9:=O.out.frozen
      obtain ⟨v9,d9⟩:∃ v9,w3.cell? ⟨j,u,none⟩=some v9:=by rw [O.out.cell];exact ⟨_,zG (by rw [fvals_len,c3.out.1];exact di)⟩
      have bh:=Q.out.drew
      have be:=ai.out.drew
      obtain ⟨o,aj⟩:=zz2 bh be;clear bh be
      go_wp2_with fail
      refine Canon.wp_region_tree [3] (· = t) (.seg [0,4,5,7] (.alt 1 (.seg [2,3] (.alt 6 (.seg [8] (.alt 9 .fin .no)) .no)) (.alt 6 (.alt 1 (.seg [2,3,8] (.alt 9 .fin .no)) .no) .no))) mixed (by kernel_rfl) ?_
      refine Canon.tr_seg ?_
      simp only [zmC,zmN,zgZ,zgS]
      go_wp2_with fail
      refine Canon.tr_to (Canon.tr_alt ?_ (Canon.tr_alt ?_ Canon.tr_no))
      ·simp only [zgZ,zgS]
       go_wp2_with fail
       refine Canon.tr_end (keep_blk o.out o.out ⟨rfl,rfl⟩) (Canon.tr_seg ?_)
       simp only [zmC,zmN,zgZ,zgS]
       go_wp2_with fail
       refine Canon.tr_to (Canon.tr_one ?_)
       simp only [zgZ,zgS]
       go_wp2_with fail
       refine (a7.out _ ⟨o.out,K.out _ aj.out,hT,Q.out.lt,zl⟩).mono ?_
       rintro e w4 ⟨rfl,rfl⟩
       go_wp2_with fail
       refine Canon.tr_end (keep_blk o.out o.out ⟨rfl,rfl⟩) (Canon.tr_seg ?_)
       simp only [zmC,zmN,zgZ,zgS]
       go_wp2_with fail
       refine Canon.tr_to (Canon.tr_one ?_)
       simp only [zgZ,zgS]
       go_wp2_with fail
       refine Canon.tr_end (keep_blk o.out (o.out.far a0 _) ⟨rfl,rfl⟩) (Canon.tr_fin (by rfl) (zF ⟨.inl ⟨_,rfl,rfl,by rw [World.cell?_drew,bg];rfl⟩,fun _ h=>by cases h⟩) ?_)
       go_wp2
       refine ⟨⟨c,Words.put m ed c,F.set u c,by omega,by simp,?_,?_,?_,?_,a2.out,?_,?_,?_⟩,by simp [intOf]⟩
       ·exact Q.out.far (p:=⟨j,u,none⟩) a0 _
       ·exact own_far ai.out O.out (by decide)
       ·exact (b8.out.far (p:=⟨j,u,none⟩) ag _).drew
       ·have:=O.out.set u (.int .i64 (c:Int));rw [fvals_set] at this;exact this
       ·intro e he;rw [a6.out,<- b7.out e he,Words.look_put]
       ·exact b9.out.far (p:=⟨j,u,none⟩) (by show _≠j;omega) _
       ·exact (k3.setCell (p:=⟨j,u,none⟩) (by show _<=j;omega) _).drew
      ·simp only [zgZ,zgS]
       go_wp2_with fail
       refine (a7.out _ ⟨o.out,K.out _ aj.out,hT,Q.out.lt,zl⟩).mono ?_
       rintro e w4 ⟨rfl,rfl⟩
       go_wp2_with fail
       refine Canon.tr_end (keep_blk o.out o.out ⟨rfl,rfl⟩) (Canon.tr_one ?_)
       simp only [zgZ,zgS]
       go_wp2_with fail
       refine Canon.tr_end (keep_blk o.out o.out ⟨rfl,rfl⟩) (Canon.tr_seg ?_)
       simp only [zmC,zmN,zgZ,zgS]
       go_wp2_with fail
       refine Canon.tr_to (Canon.tr_one ?_)
       simp only [zgZ,zgS]
       go_wp2_with fail
       refine Canon.tr_end (keep_blk o.out (o.out.far a0 _) ⟨rfl,rfl⟩) (Canon.tr_fin (by rfl) (zF ⟨.inl ⟨_,rfl,rfl,by rw [World.cell?_drew,bg];rfl⟩,fun _ h=>by cases h⟩) ?_)
       go_wp2
       refine ⟨⟨c,Words.put m ed c,F.set u c,by omega,by simp,?_,?_,?_,?_,a2.out,?_,?_,?_⟩,by simp [intOf]⟩
       ·exact Q.out.far (p:=⟨j,u,none⟩) a0 _
       ·exact own_far ai.out O.out (by decide)
       ·exact (b8.out.far (p:=⟨j,u,none⟩) ag _).drew
       ·have:=O.out.set u (.int .i64 (c:Int));rw [fvals_set] at this;exact this
       ·intro e he;rw [a6.out,<- b7.out e he,Words.look_put]
       ·exact b9.out.far (p:=⟨j,u,none⟩) (by show _≠j;omega) _
       ·exact (k3.setCell (p:=⟨j,u,none⟩) (by show _<=j;omega) _).drew
theorem new_calls (v:Value) (N:Int) (T:List T3) (w:World) {B:Nat} (hB0:B<=w.heap.size) (h:Sl 3 RTri w B v T) (hN:I64 N) :
  Calls Tryz.prog 25 #[.agg #[.int .i64 N,v]] w fun e w'=>(∃ (pv:Value) (a b c:Int),e=.returned (.tuple #[pv,.agg #[.int .i64 a,.int .i64 b,.int .i64 c]])/\((Surf N T/\Tab w' w'.heap.size pv N T)\/(¬ Surf N T/\pv=.pointer none)))/\RowKit.Below w.heap.size w w':=by
 refine (new_calls2 v N T w hB0 h hN).mono ?_
 rintro e g ⟨⟨pv,a,b,c,rfl,d⟩,f⟩
 exact ⟨⟨pv,a,b,c,rfl,d.elim (fun k=>.inl ⟨k.1,k.2.1⟩) .inr⟩,f⟩
end Go.Proofs.YtpbdcppaiafbgaaGreat
