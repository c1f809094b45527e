/- Walks: a body cut open along a loop (glue's Open). Walks: a row of points made (for glue's Join). -/
import Derived.Test.YtpbdcppaiafbgaaGreatOB
import Derived.Test.YtpbdcppaiafbgaaGreatOC
import Derived.Test.YtpbdcppaiafbgaaGreatEC
set_option maxRecDepth 100000
set_option maxHeartbeats 8000000
namespace Go.Mesh
theorem newO_rng {N:Int} {T:List T3} (hs:Surf N T) (C:List (Int × Int)):∀ v∈newO N T C,0<=v/\v<N:=fun v hv=>by
 rw [newO_eq] at hv
 unfold outO at hv
 have e:=hs.n0
 rcases List.mem_append.1 hv with h | h
 ·obtain ⟨k,d,rfl⟩:=List.mem_map.1 h
  have:=List.mem_range.1 d
  omega
 ·obtain ⟨c,b,rfl⟩:=List.mem_map.1 h
  obtain ⟨_,_,a,_⟩:=mem_exH.1 b
  exact hs.rng c a
def ptsOf (P:List T3) (O:List Int):List T3:=O.map fun v=>P.getD v.toNat (0,0,0)
theorem ptsOf_take {P:List T3} {O:List Int} {k vn:Nat} (hk:k<O.length) (hv:O[k]=(vn:Int)) (hp:vn<P.length):ptsOf P (O.take (k+1))=ptsOf P (O.take k)++[P[vn]]:=by
 unfold ptsOf
 rw [List.take_succ_eq_append_getElem hk,List.map_append,List.map_cons,List.map_nil,hv,Int.toNat_natCast,List.getD_eq_getElem?_getD,List.getElem?_eq_getElem hp];rfl
end Go.Mesh
namespace Go.Proofs.YtpbdcppaiafbgaaGreat
open Go Go.RowKit Go.Words Go.Mesh
theorem build_body0 (w:World):(Instr.build 67 #[]).run Tryz.prog w=.ok (.agg #[.int .i64 0,.slice none 0 0,.slice none 0 0,.slice none 0 0]) w:=by kernel_rfl
theorem infoPt:(Tryz.prog.info? 74).map (fun i=>(i.zero,i.size,i.bytes))=some (some (.agg #[.int .i64 0,.int .i64 0,.int .i64 0]),3,24):=by kernel_rfl
def NoBody (x o:Value):Prop:=x=.agg #[.int .i64 0,.slice none 0 0,.slice none 0 0,.slice none 0 0]/\o=.slice none 0 0
def OpenMade (wz:World) (N:Int) (T P:List T3) (K:List Int) (l:List Int) (x o:Value):Prop :=
 ∃ sv pv kv,x=.agg #[.int .i64 ((newO N T ((lpE l).map nm)).length:Nat),sv,pv,kv]/\Sl 3 RTri wz wz.heap.size sv (newX N T ((lpE l).map nm))/\Sl 3 RTri wz wz.heap.size pv (ptsOf P (newO N T ((lpE l).map nm)))/\Sl 1 RInt wz wz.heap.size kv K/\Sl 1 RInt wz wz.heap.size o (newO N T ((lpE l).map nm))
def OpenC (N:Int) (T P:List T3) (K:List Int) (l:List Int) (c:Int):Prop :=
 (¬ Surf N T/\c=11)\/(Surf N T/\mayB N T P K=false/\c=1)\/(Surf N T/\mayB N T P K=true /\
  ((lpN N T l≠0/\c=lpN N T l)\/(lpN N T l=0/\4096<(newO N T ((lpE l).map nm)).length/\c=7)\/(lpN N T l=0/\(newO N T ((lpE l).map nm)).length<=4096/\c=0)))
def OpenEnd (w w':World) (N:Int) (T P:List T3) (K:List Int) (l:List Int) (x o:Value) (c:Int):Prop :=
 OpenC N T P K l c/\(c≠0->NoBody x o)/\(c=0->∀ wz:World,(∀ b,w.heap.size<=b->b<w'.heap.size->wz.heap[b]? = w'.heap[b]?)->OpenMade wz N T P K l x o)
def OpenLaid (w4:World) (K:List Int) (M:Nat) (xv:Value) (s10:Value) (wx:World):Prop :=
 ∃ g10 A2 cap2,s10=.pointer (some ⟨g10,0,none⟩)/\w4.heap.size<=g10/\Bk wx g10 67 [.int .i64 (M:Nat),xv,.slice none 0 0,.slice A2 K.length cap2]/\wx.ownsRow w4.heap.size 3 1 (.slice A2 K.length cap2) K.length (ivals K)/\Below w4.heap.size w4 wx
theorem LoopCut.shape {w':World} {N:Int} {T:List T3} {l:List Int} {x o:Value} {c:Int} (h:LoopCut w' N T l x o c):∃ n9 A9 m9 q9 Ao no co,x=.agg #[.int .i64 n9,.slice A9 m9 q9]/\o=.slice Ao no co:=by
 rcases h with ⟨_,_,a,b⟩ | ⟨_,_,_,a,b⟩ | ⟨_,_,_,_,a,b⟩ | ⟨_,_,_,_,j,a,b,d⟩
 ·exact ⟨_,_,_,_,_,_,_,a,b⟩
 ·exact ⟨_,_,_,_,_,_,_,a,b⟩
 ·exact ⟨_,_,_,_,_,_,_,a,b⟩
 ·obtain ⟨e,g,rfl,_⟩:=b.form
  obtain ⟨f,i,rfl,_⟩:=d.form
  exact ⟨_,_,_,_,_,_,_,a,rfl⟩
theorem LoopCut.code {w':World} {N:Int} {T:List T3} {l:List Int} {x o:Value} {c:Int} (h:LoopCut w' N T l x o c) (hs:Surf N T) :
  (lpN N T l≠0/\c=lpN N T l)\/(lpN N T l=0/\4096<(newO N T ((lpE l).map nm)).length/\c=7)\/(lpN N T l=0/\(newO N T ((lpE l).map nm)).length<=4096/\c=0):=by
 rcases h with ⟨a,_⟩ | ⟨_,a,b,_⟩ | ⟨_,a,b,d,_⟩ | ⟨_,a,b,d,_⟩
 ·exact absurd hs a
 ·exact .inl ⟨a,b⟩
 ·exact .inr (.inl ⟨a,b,d⟩)
 ·exact .inr (.inr ⟨a,b,d⟩)
theorem sl_cells1 {w:World} {B cap:Nat} {A:Option Addr} {l:List Int} (h:Sl 1 RInt w B (.slice A l.length cap) l):(A=none->l.length=0)/\∀ ad,A=some ad->∀ j u,(ivals l)[j]? = some u->w.cell? (ad.add j)=some u:=by
 refine ⟨fun e=>?_,fun ad e j u hj=>?_⟩
 ·subst e
  rcases Nat.eq_zero_or_pos l.length with c | c
  ·exact c
  ·obtain ⟨b,o,d,_⟩:=h.int_at c
   cases d
 ·have a:j<l.length:=by
   have:=(List.getElem?_eq_some_iff.1 hj).1
   unfold ivals at this
   rwa [List.length_map] at this
  obtain ⟨b,o,d,_,f⟩:=h.int_at a
  rw [d] at e
  injection e with e
  subst e
  unfold ivals at hj
  rw [List.getElem?_map,List.getElem?_eq_getElem a] at hj
  rw [<- Option.some.inj hj,Addr.add_lit]
  exact f
theorem own_far1 {w:World} {g i base size n:Nat} {e:TypeId} {v u:Value} {xs:List Value} (h:w.ownsRow base e size v n xs) (hb:g<base):(w.setCell ⟨g,i,none⟩ u).ownsRow base e size v n xs :=
 h.kept (grow_cell w g i u) (.inr fun e=>by have:=(h.lt _ e).1;omega)
theorem ivals_ones (l:List Int):∀ u∈ivals l,u.oneCell'=true:=fun u hu=>by
 unfold ivals at hu
 obtain ⟨y,_,rfl⟩:=List.mem_map.1 hu
 rfl
theorem open45_calls {w:World} {B:Nat} {sv pv kv lv:Value} {N:Int} {T P:List T3} {K l:List Int} (hB0:B<=w.heap.size) (hT:Sl 3 RTri w B sv T) (hP:Sl 3 RTri w B pv P) (hK:Sl 1 RInt w B kv K) (hN:I64 N) (hTl:T.length<=100000) (c2:P.length<=100000) (bz:K.length<=1000000) (hl:Sl 1 RInt w B lv l) (hok:∀ x∈l,I64 x) (hll:l.length<=1000) :
  Calls Tryz.prog 39 #[.agg #[.int .i64 N,sv,pv,kv],lv] w fun e w'=>(∃ x o c,e=.returned (.tuple #[x,o,.int .i64 c])/\OpenEnd w w' N T P K l x o c)/\Below w.heap.size w w':=by
 obtain ⟨A,a2,rfl,hf⟩:=hT.form
 obtain ⟨Ap,H,rfl,gr⟩:=hP.form
 obtain ⟨Ak,D,rfl,gq⟩:=hK.form
 have b8:=((Below.refl w.heap.size w).alloc (Nat.le_refl _) (.cells #[.int .i64 N,.slice A T.length a2,.slice Ap P.length H,.slice Ak K.length D] 67)).alloc (by simp) (.cells #[.int .i64 0,.slice none 0 0,.slice none 0 0,.slice none 0 0] 67)
 have c6:=(Bk.new w 67 [.int .i64 N,.slice A T.length a2,.slice Ap P.length H,.slice Ak K.length D]).alloc (.cells #[.int .i64 0,.slice none 0 0,.slice none 0 0,.slice none 0 0] 67)
 have ea:=Bk.new' (n:=w.heap.size+1) (w:=w.alloc (.cells #[.int .i64 N,.slice A T.length a2,.slice Ap P.length H,.slice Ak K.length D] 67)) 67 [.int .i64 0,.slice none 0 0,.slice none 0 0,.slice none 0 0] (by simp)
 have ic:w.heap.size+2<=((w.alloc (.cells #[.int .i64 N,.slice A T.length a2,.slice Ap P.length H,.slice Ak K.length D] 67)).alloc (.cells #[.int .i64 0,.slice none 0 0,.slice none 0 0,.slice none 0 0] 67)).heap.size:=by simp
 have cu:=hT.below keeps_tri (b8.mono hB0)
 have dy:=hP.below keeps_tri (b8.mono hB0)
 have dt:=hK.below keeps_int (b8.mono hB0)
 have eb:=hl.below keeps_int (b8.mono hB0)
 generalize g8:(w.alloc (.cells #[.int .i64 N,.slice A T.length a2,.slice Ap P.length H,.slice Ak K.length D] 67)).alloc (.cells #[.int .i64 0,.slice none 0 0,.slice none 0 0,.slice none 0 0] 67)=w0 at *
 have c0:w0.cell? ⟨w.heap.size,0,none⟩=some (.int .i64 N):=c6.cell 0
 have c1:w0.cell? ⟨w.heap.size,1,none⟩=some (.slice A T.length a2):=c6.cell 1
 have e7:=certis_calls (.slice A T.length a2) N T w0 (B:=B) (by omega) cu hN
 have i4:=fun w=>build_body0 w
 obtain ⟨i1,i0,hz,i3,ci,ch,ce,ey,ev,ew,eu,f1⟩:=zz12 hT hP hK hl cu dy dt eb c6 ea e7 hok;clear hT hP hK hl cu dy dt eb c6 ea e7 hok
 go_enter Tryz.func39,Tryz.ntmps39
 go_wp2_with fail
 clear g8
 refine eu.out.mono ?_
 rintro e w1 ⟨⟨b0,rfl,be⟩,aa⟩
 have gb:=aa.size
 have c3:=b8.trans (aa.mono (by omega))
 have M:=ev.out.below aa (by omega)
 have E:=ew.out.below aa (by omega)
 have r0:w1.cell? ⟨w.heap.size+1,0,none⟩=some (.int .i64 0):=E.cell 0
 have r1:w1.cell? ⟨w.heap.size+1,1,none⟩=some (.slice none 0 0):=E.cell 1
 have r2:w1.cell? ⟨w.heap.size+1,2,none⟩=some (.slice none 0 0):=E.cell 2
 have r3:w1.cell? ⟨w.heap.size+1,3,none⟩=some (.slice none 0 0):=E.cell 3
 have rf:=E.frozen
 cases b0 with
 | false =>
  have ef:¬ Surf N T:=fun f=>by have:=be.2 f;cases this
  have R:=(((E.set 0 (.int .i64 0)).set 1 (.slice none 0 0)).set 2 (.slice none 0 0)).set 3 (.slice none 0 0)
  have J:=(((c3.setCell (p:=⟨w.heap.size+1,0,none⟩) (by show w.heap.size<=w.heap.size+1;omega) (.int .i64 0)).setCell (p:=⟨w.heap.size+1,1,none⟩) (by show w.heap.size<=w.heap.size+1;omega) (.slice none 0 0)).setCell (p:=⟨w.heap.size+1,2,none⟩) (by show w.heap.size<=w.heap.size+1;omega) (.slice none 0 0)).setCell (p:=⟨w.heap.size+1,3,none⟩) (by show w.heap.size<=w.heap.size+1;omega) (.slice none 0 0)
  obtain ⟨br,bt,f0,h4,X,W⟩:=zz6 M E ef be R J;clear M E ef be R J
  go_wp2_with fail
  refine ret_ctt rfl rfl X.out Tryz.underlying67 rfl (by kernel_rfl) rfl ?_
  exact ⟨⟨_,_,11,rfl,.inl ⟨f0.out,rfl⟩,fun _=>⟨rfl,rfl⟩,fun f=>absurd f (by decide)⟩,W.out⟩
 | true =>
  have hs:=be.1 rfl
  clear be
  have hm:=may_calls (w:=w1) (B:=B) (N:=N) (by omega) (ci.out.below keeps_tri (aa.mono (by omega))) (ch.out.below keeps_tri (aa.mono (by omega))) (ce.out.below keeps_int (aa.mono (by omega))) hTl c2 bz
  have d0:w1.cell? ⟨w.heap.size,0,none⟩=some (.int .i64 N):=M.cell 0
  have d1:w1.cell? ⟨w.heap.size,1,none⟩=some (.slice A T.length a2):=M.cell 1
  have d2:w1.cell? ⟨w.heap.size,2,none⟩=some (.slice Ap P.length H):=M.cell 2
  have d3:w1.cell? ⟨w.heap.size,3,none⟩=some (.slice Ak K.length D):=M.cell 3
  obtain ⟨b5,br,bt,fm⟩:=zz4 hs M E hm;clear hs M E hm
  go_wp2_with fail
  refine fm.out.mono ?_
  rintro e w2 ⟨rfl,ba⟩
  have ie:=ba.size
  have c4:=c3.trans (ba.mono (by omega))
  have a7:=br.out.below ba (by omega)
  have F:=bt.out.below ba (by omega)
  have r0:w2.cell? ⟨w.heap.size+1,0,none⟩=some (.int .i64 0):=F.cell 0
  have r1:w2.cell? ⟨w.heap.size+1,1,none⟩=some (.slice none 0 0):=F.cell 1
  have r2:w2.cell? ⟨w.heap.size+1,2,none⟩=some (.slice none 0 0):=F.cell 2
  have r3:w2.cell? ⟨w.heap.size+1,3,none⟩=some (.slice none 0 0):=F.cell 3
  have rf:=F.frozen
  cases av:mayB N T P K with
  | false =>
   have R:=(((F.set 0 (.int .i64 0)).set 1 (.slice none 0 0)).set 2 (.slice none 0 0)).set 3 (.slice none 0 0)
   have J:=(((c4.setCell (p:=⟨w.heap.size+1,0,none⟩) (by show w.heap.size<=w.heap.size+1;omega) (.int .i64 0)).setCell (p:=⟨w.heap.size+1,1,none⟩) (by show w.heap.size<=w.heap.size+1;omega) (.slice none 0 0)).setCell (p:=⟨w.heap.size+1,2,none⟩) (by show w.heap.size<=w.heap.size+1;omega) (.slice none 0 0)).setCell (p:=⟨w.heap.size+1,3,none⟩) (by show w.heap.size<=w.heap.size+1;omega) (.slice none 0 0)
   obtain ⟨bs,bu,Z,X,W⟩:=zz5 a7 F av R J;clear a7 F av R J
   go_wp2_with fail
   refine ret_ctt rfl rfl X.out Tryz.underlying67 rfl (by kernel_rfl) rfl ?_
   exact ⟨⟨_,_,1,rfl,.inr (.inl ⟨b5.out,Z.out,rfl⟩),fun _=>⟨rfl,rfl⟩,fun f=>absurd f (by decide)⟩,W.out⟩
  | true =>
   have bw:=aa.trans (ba.mono gb)
   have a0:w2.cell? ⟨w.heap.size,0,none⟩=some (.int .i64 N):=a7.cell 0
   have a1:w2.cell? ⟨w.heap.size,1,none⟩=some (.slice A T.length a2):=a7.cell 1
   have e1:=along45_calls (w:=w2) (B:=B) (N:=N) (by omega) (ci.out.below keeps_tri (bw.mono (by omega))) hN (ey.out.below keeps_int (bw.mono (by omega))) f1.out hll
   obtain ⟨Z,bs,bu,es⟩:=zz4 av a7 F e1;clear av a7 F e1
   go_wp2_with fail
   refine es.out.mono ?_
   rintro e w3 ⟨⟨x,o,c,rfl,hcut,aj⟩,aq⟩
   have el:=aq.size
   have dp:=c4.trans (aq.mono (by omega))
   have al:=bs.out.below aq (by omega)
   have am:=bu.out.below aq (by omega)
   obtain ⟨n9,s,t,v,Ao,no,co,rfl,rfl⟩:=hcut.shape
   obtain ⟨d,ca⟩:∃ d,w3.alloc (.cells #[.int .i64 n9,.slice s t v] 24)=d:=⟨_,rfl⟩
   have ah:Below w3.heap.size w3 d:=by rw [<- ca];exact (Below.refl w3.heap.size w3).alloc (Nat.le_refl _) _
   have ig:w3.heap.size+1<=d.heap.size:=by rw [<- ca];simp
   have c5:=dp.trans (ah.mono (by omega))
   have a8:=al.below ah (by omega)
   have G:=am.below ah (by omega)
   have an:Bk d w3.heap.size 24 [.int .i64 n9,.slice s t v]:=by rw [<- ca];exact Bk.new w3 _ _
   have t0:d.cell? ⟨w3.heap.size,0,none⟩=some (.int .i64 n9):=an.cell 0
   have t1:d.cell? ⟨w3.heap.size,1,none⟩=some (.slice s t v):=an.cell 1
   have tf:=an.frozen
   have r0:d.cell? ⟨w.heap.size+1,0,none⟩=some (.int .i64 0):=G.cell 0
   have r1:d.cell? ⟨w.heap.size+1,1,none⟩=some (.slice none 0 0):=G.cell 1
   have r2:d.cell? ⟨w.heap.size+1,2,none⟩=some (.slice none 0 0):=G.cell 2
   have r3:d.cell? ⟨w.heap.size+1,3,none⟩=some (.slice none 0 0):=G.cell 3
   have rf:=G.frozen
   have e2:d.cell? ⟨w.heap.size,2,none⟩=some (.slice Ap P.length H):=a8.cell 2
   have e3:d.cell? ⟨w.heap.size,3,none⟩=some (.slice Ak K.length D):=a8.cell 3
   have I:=hcut.code b5.out
   by_cases cx:c=0
   case neg =>
    have ib:(c != 0)=true:=bne_iff_ne.2 cx
    have bc:OpenC N T P K l c:=.inr (.inr ⟨b5.out,Z.out,I⟩)
    have R:=(((G.set 0 (.int .i64 0)).set 1 (.slice none 0 0)).set 2 (.slice none 0 0)).set 3 (.slice none 0 0)
    have J:=(((c5.setCell (p:=⟨w.heap.size+1,0,none⟩) (by show w.heap.size<=w.heap.size+1;omega) (.int .i64 0)).setCell (p:=⟨w.heap.size+1,1,none⟩) (by show w.heap.size<=w.heap.size+1;omega) (.slice none 0 0)).setCell (p:=⟨w.heap.size+1,2,none⟩) (by show w.heap.size<=w.heap.size+1;omega) (.slice none 0 0)).setCell (p:=⟨w.heap.size+1,3,none⟩) (by show w.heap.size<=w.heap.size+1;omega) (.slice none 0 0)
    obtain ⟨dg,bq,dk,dm,dl,bv,ex,ck,bm,X,W⟩:=zz11 hcut aj al am a8 G an I bc R J;clear hcut aj al am a8 G an I bc R J
    go_wp2_with fail
    refine ret_ctt rfl rfl X.out Tryz.underlying67 rfl (by kernel_rfl) rfl ?_
    exact ⟨⟨_,_,c,rfl,bm.out,fun _=>⟨rfl,rfl⟩,fun f=>absurd f cx⟩,W.out⟩
   subst cx
   have bc:OpenC N T P K l 0:=.inr (.inr ⟨b5.out,Z.out,I⟩)
   obtain ⟨xv,hx,hX,hO⟩:=aj rfl d fun b _ h2=>ah.block b h2
   injection hx with hx
   have hx:=congrArg Array.toList hx
   simp only [List.cons.injEq] at hx
   obtain ⟨da,db,_⟩:=hx
   injection da with _ da
   subst db
   obtain ⟨g5,hg⟩:=hO.len
   obtain ⟨ed,_⟩:=hX.len
   have e0:=ch.out.below keeps_tri ((bw.trans ((aq.trans (ah.mono el)).mono (by omega))).mono (show B<=w0.heap.size by omega))
   have dv:=ce.out.below keeps_int ((bw.trans ((aq.trans (ah.mono el)).mono (by omega))).mono (show B<=w0.heap.size by omega))
   have ct:(P.length:Int)=N:=by
    have f:=Z.out
    unfold mayB at f
    rw [Bool.and_eq_true] at f
    exact (of_decide_eq_true f.1).1
   have d8:=newO_rng b5.out ((lpE l).map nm)
   have gs:(newO N T ((lpE l).map nm)).length<=4096:=by
    rcases I with ⟨h8,f⟩ | ⟨_,_,f⟩ | ⟨_,f,_⟩
    ·exact absurd f.symm h8
    ·exact absurd f (by decide)
    ·exact f
   have i8:((0:Int) != 0)=false:=rfl
   generalize dx:newO N T ((lpE l).map nm)=O at *
   subst da
   subst g5
   obtain ⟨dg,bq,dk,dm,dl,bv,ex,ck,bm,i2,fl,er⟩:=zz12 hcut aj al am a8 G an I bc hX hO e0;obtain ⟨cg,df,dn,ar,h0⟩:=zz5 dv ct d8 dx ed;clear hcut aj al am a8 G an I bc hX hO e0 dv ct d8 dx ed
   go_upto_region 8 with fail
   all_goals first | (exfalso;omega) | skip
   clear ca
   go_cut [10] (fun s10 wx=>OpenLaid d K O.length (.slice s t v) s10 wx)
   case first =>
    have e8:=(Below.refl d.heap.size d).drew
    have cr:=(cg.out.below keeps_int (e8.mono (show B<=d.heap.size by omega)))
    obtain ⟨kn,kc⟩:=sl_cells1 cr
    have i5:d.drew.cell? ⟨w.heap.size,2,none⟩=some (.slice Ap P.length H):=e2
    have i6:d.drew.cell? ⟨w.heap.size,3,none⟩=some (.slice Ak K.length D):=e3
    have il:d.drew.cell? ⟨w3.heap.size,0,none⟩=some (.int .i64 (O.length:Nat)):=t0
    have im:d.drew.cell? ⟨w3.heap.size,1,none⟩=some (.slice s t v):=t1
    have ee:d.drew.ownsRow d.heap.size 3 1 (.slice none 0 0) 0 []:=World.ownsRow_nil _ _ _ _
    have i9:w.heap.size<d.heap.size:=by omega
    obtain ⟨gw,fr,fq,ez⟩:=zz4 cr kn kc ee;clear cr kn kc ee
    go_wp2_with fail
    refine Canon.wp_region_tree [0,2] (fun b9=>b9=w3.heap.size\/b9=w.heap.size) (.seg [0,1,2] (.alt 3 (.seg [4] (.alt 5 (.alt 6 .fin .no) .no)) (.alt 5 (.alt 3 (.seg [4] (.alt 6 .fin .no)) .no) .no))) mixed (by kernel_rfl) ?_
    refine Canon.tr_seg ?_
    simp only [zmC,zmN,zgZ,zgS]
    go_wp2_with fail
    refine Canon.tr_to (Canon.tr_alt ?_ (Canon.tr_one ?_))
    ·simp only [zgZ,zgS]
     refine wpList_append_opt rfl (.const (.slice none 0 0)) (.tmp 36) 28 rfl d.heap.size Tryz.underlying28 info_int rfl (by decide) _ 0 [] rfl ez.out Ak K.length D (ivals K) rfl (by unfold ivals;simp) fr.out fq.out (ivals_ones K) (by omega) (by decide) (Nat.le_refl _) ?_
     intro v' w5 q ak ai _
     rw [Nat.zero_add,List.nil_append] at q
     obtain ⟨A5,y,rfl,dq⟩:=own_form q
     have Y:=e8.trans ai
     obtain ⟨b2,di⟩:=zz2 q ak;clear q ak
     go_wp2_with fail
     refine Canon.tr_end (fun b9 f=>Y.block b9 (by rcases f with f | f <;> omega)) (Canon.tr_seg ?_)
     simp only [zmC,zmN,zgZ,zgS]
     go_wp2_with fail
     refine Canon.tr_to (Canon.tr_one ?_)
     simp only [zgZ,zgS]
     go_wp2_with fail
     have cb:=Y.size
     have f9:=(Below.refl w5.heap.size w5).alloc (Nat.le_refl _) (.cells #[.int .i64 0,.slice none 0 0,.slice none 0 0,.slice none 0 0] 67)
     have f8:=Y.trans (f9.mono cb)
     refine Canon.tr_end (fun b9 f=>f8.block b9 (by rcases f with f | f <;> omega)) (Canon.tr_one ?_)
     simp only [zgZ,zgS]
     go_wp2_with fail
     have fa:=(Below.refl w5.heap.size w5).alloc (Nat.le_refl _) (.cells #[.int .i64 (O.length:Nat),.slice s t v,.slice none 0 0,.slice A5 K.length y] 67)
     have bn:=Bk.new w5 67 [.int .i64 (O.length:Nat),.slice s t v,.slice none 0 0,.slice A5 K.length y]
     have cv:=Y.trans (fa.mono cb)
     have r:=b2.out.alloc (.cells #[.int .i64 (O.length:Nat),.slice s t v,.slice none 0 0,.slice A5 K.length y] 67)
     have a3:OpenLaid d K O.length (.slice s t v) (.pointer (some ⟨w5.heap.size,0,none⟩)) (w5.alloc (.cells #[.int .i64 (O.length:Nat),.slice s t v,.slice none 0 0,.slice A5 K.length y] 67)):=⟨w5.heap.size,A5,y,rfl,cb,bn,r,cv⟩
     obtain ⟨gk,cn,af⟩:=zz3 bn r a3;clear bn r a3
     refine Canon.tr_end (fun b9 f=>cv.block b9 (by rcases f with f | f <;> omega)) (Canon.tr_fin (by rfl) (List.forall_mem_cons.2 ⟨.inl ⟨_,rfl,.inl rfl,by rw [World.cell?_drew,t0];rfl⟩,List.forall_mem_cons.2 ⟨.inl ⟨_,rfl,.inr rfl,by rw [World.cell?_drew,e3];rfl⟩,fun _ h=>by cases h⟩⟩) ?_)
     go_wp2_with fail
     go_meet
     exact af.out
    ·simp only [zgZ,zgS]
     go_wp2_with fail
     have cy:Below d.heap.size d (d.alloc (.cells #[.int .i64 0,.slice none 0 0,.slice none 0 0,.slice none 0 0] 67)).drew:=((Below.refl d.heap.size d).alloc (Nat.le_refl _) _).drew
     have c7:Bk (d.alloc (.cells #[.int .i64 0,.slice none 0 0,.slice none 0 0,.slice none 0 0] 67)).drew d.heap.size 67 [.int .i64 0,.slice none 0 0,.slice none 0 0,.slice none 0 0]:=(Bk.new d 67 [.int .i64 0,.slice none 0 0,.slice none 0 0,.slice none 0 0]).drew
     have ih:d.heap.size+1<=((d.alloc (.cells #[.int .i64 0,.slice none 0 0,.slice none 0 0,.slice none 0 0] 67)).drew).heap.size:=by simp
     have cq:=(cg.out.below keeps_int (cy.mono (show B<=d.heap.size by omega)))
     generalize (d.alloc (.cells #[.int .i64 0,.slice none 0 0,.slice none 0 0,.slice none 0 0] 67)).drew=wa at *
     obtain ⟨dd,dc⟩:=sl_cells1 cq
     have d7:wa.ownsRow wa.heap.size 3 1 (.slice none 0 0) 0 []:=World.ownsRow_nil _ _ _ _
     refine Canon.tr_end (fun b9 f=>cy.block b9 (by rcases f with f | f <;> omega)) (Canon.tr_one ?_)
     simp only [zgZ,zgS]
     refine wpList_append_opt rfl (.const (.slice none 0 0)) (.tmp 36) 28 rfl wa.heap.size Tryz.underlying28 info_int rfl (by decide) _ 0 [] rfl d7 Ak K.length D (ivals K) rfl (by unfold ivals;simp) dd dc (ivals_ones K) (by omega) (by decide) (Nat.le_refl _) ?_
     intro v' w5 q ak ai _
     rw [Nat.zero_add,List.nil_append] at q
     obtain ⟨A5,y,rfl,dq⟩:=own_form q
     have Y:=cy.trans (ai.mono (by omega))
     have S:=c7.below ai c7.lt
     have cb:=ai.size
     have s0:w5.cell? ⟨d.heap.size,0,none⟩=some (.int .i64 0):=S.cell 0
     have s1:w5.cell? ⟨d.heap.size,1,none⟩=some (.slice none 0 0):=S.cell 1
     have s2:w5.cell? ⟨d.heap.size,2,none⟩=some (.slice none 0 0):=S.cell 2
     have s3:w5.cell? ⟨d.heap.size,3,none⟩=some (.slice none 0 0):=S.cell 3
     have sf:=S.frozen
     have d5:=(((S.set 0 (.int .i64 (O.length:Nat))).set 1 (.slice s t v)).set 2 (.slice none 0 0)).set 3 (.slice A5 K.length y)
     have e5:=(((Y.setCell (p:=⟨d.heap.size,0,none⟩) (Nat.le_refl _) (.int .i64 (O.length:Nat))).setCell (p:=⟨d.heap.size,1,none⟩) (Nat.le_refl _) (.slice s t v)).setCell (p:=⟨d.heap.size,2,none⟩) (Nat.le_refl _) (.slice none 0 0)).setCell (p:=⟨d.heap.size,3,none⟩) (Nat.le_refl _) (.slice A5 K.length y)
     have aw:=own_low (show d.heap.size<=wa.heap.size by omega) (own_far1 (own_far1 (own_far1 (own_far1 q (i:=0) (u:=.int .i64 (O.length:Nat)) (show d.heap.size<wa.heap.size by omega)) (i:=1) (u:=.slice s t v) (show d.heap.size<wa.heap.size by omega)) (i:=2) (u:=.slice none 0 0) (show d.heap.size<wa.heap.size by omega)) (i:=3) (u:=.slice A5 K.length y) (show d.heap.size<wa.heap.size by omega))
     have a3:OpenLaid d K O.length (.slice s t v) (.pointer (some ⟨d.heap.size,0,none⟩)) ((((w5.setCell ⟨d.heap.size,0,none⟩ (.int .i64 (O.length:Nat))).setCell ⟨d.heap.size,1,none⟩ (.slice s t v)).setCell ⟨d.heap.size,2,none⟩ (.slice none 0 0)).setCell ⟨d.heap.size,3,none⟩ (.slice A5 K.length y)):=⟨d.heap.size,A5,y,rfl,Nat.le_refl _,d5,aw,e5⟩
     obtain ⟨b2,di,gy,gl,gz,fo,af,h3,h6,h5,gv⟩:=zz11 q ak c7 S d5 aw a3 d7 dd dc cq;clear q ak c7 S d5 aw a3 d7 dd dc cq
     go_wp2_with fail
     refine Canon.tr_end (fun b9 f=>Y.block b9 (by rcases f with f | f <;> omega)) (Canon.tr_seg ?_)
     simp only [zmC,zmN,zgZ,zgS]
     go_wp2_with fail
     refine Canon.tr_to (Canon.tr_one ?_)
     simp only [zgZ,zgS]
     go_wp2_with fail
     refine Canon.tr_end (fun b9 f=>e5.block b9 (by rcases f with f | f <;> omega)) (Canon.tr_fin (by rfl) (List.forall_mem_cons.2 ⟨.inl ⟨_,rfl,.inl rfl,by rw [World.cell?_drew,t0];rfl⟩,List.forall_mem_cons.2 ⟨.inl ⟨_,rfl,.inr rfl,by rw [World.cell?_drew,e3];rfl⟩,fun _ h=>by cases h⟩⟩) ?_)
     go_wp2_with fail
     go_meet
     exact af.out
   case rest =>
    obtain ⟨z,A2,C,rfl,fc,d4,bd,cw⟩:=hcut
    have ii:=cw.size
    have dw:=fl.out
    have c9:wc.ownsRow d.heap.size 74 3 (.slice none 0 0) 0 (flat3 (ptsOf P (O.take 0))):=World.ownsRow_nil _ _ _ _
    have f5:B<=d.heap.size:=by omega
    obtain ⟨dj,cc,en,cm⟩:=zz4 d4 bd dw c9;clear d4 bd dw c9
    go_wp2_with fail
    go_loopw [41] (fun iv wr=>∃ (k:Nat) (V:Option Addr) (m:Nat),k<=O.length/\iv=.int .i64 (k:Int)/\Bk wr z 67 [.int .i64 (O.length:Nat),.slice s t v,.slice V k m,.slice A2 K.length C]/\wr.ownsRow d.heap.size 3 1 (.slice A2 K.length C) K.length (ivals K)/\wr.ownsRow d.heap.size 74 3 (.slice V k m) k (flat3 (ptsOf P (O.take k)))/\Below d.heap.size d wr) (fun iv _=>O.length - (intOf iv).toNat)
    case atStart=>exact ⟨0,none,0,by omega,rfl,dj.out,cc.out,cm.out,cw⟩
    case round =>
     obtain ⟨k,V,m,hk,rfl,L,a4,U,ac⟩:=hrel
     obtain ⟨g,ga⟩:∃ g,g=wr:=⟨_,rfl⟩
     subst ga
     have gc:=ac.size
     have b6:=en.out.below keeps_int ac
     have b7:=er.out.below keeps_tri (ac.mono f5)
     have fz:=c5.trans (ac.mono (by omega))
     have e9:=L.lt
     have f2:=(ac.cell (p:=⟨w.heap.size,2,none⟩) (by show w.heap.size<_;omega)).trans e2
     by_cases d6:k<O.length
     ·have hv:=dn.out O[k] (List.getElem_mem d6)
      have cs:=df.out
      obtain ⟨vn,ej⟩:∃ vn:Nat,O[k]=(vn:Int):=⟨O[k].toNat,by omega⟩
      have ei:vn<P.length:=by omega
      obtain ⟨b,o,fv,hb,a1⟩:=b6.int_at d6
      subst fv
      rw [ej] at a1
      obtain ⟨bp,op,fw,ia,p1,p2,p3⟩:=b7.tri_at ei
      subst fw
      have eh:=ptsOf_take (P:=P) d6 ej ei
      generalize P[vn]=pt at *
      obtain ⟨x0,x1,x2⟩:=pt
      simp only [] at p1 p2 p3
      have q0:g.cell? ⟨z,0,none⟩=some (.int .i64 (O.length:Nat)):=L.cell 0
      have q2:g.cell? ⟨z,2,none⟩=some (.slice V k m):=L.cell 2
      have ik:g.drew.cell? ⟨z,2,none⟩=some (.slice V k m):=q2
      have i7:g.drew.cell? ⟨w.heap.size,2,none⟩=some (.slice (some ⟨bp,op,none⟩) P.length H):=f2
      obtain ⟨bl,b3,b4,eo,eq,f3,gh⟩:=zz7 L a4 U b6 b7 eh cs;clear L a4 U b6 b7 eh cs
      go_wp2_with fail
      refine Canon.wp_region_last 10 [1] (fun b9=>b9=z) (.seg [0,1,2,3,4,5,6] (.alt 7 (.alt 8 (.seg [9] (.alt 10 .fin .no)) .no) .no)) mixed (by kernel_rfl) ?_
      refine Canon.trm_seg ?_
      simp only [zmC,zmN,zgZ,zgS]
      go_wp2_with fail
      refine Canon.trm_to (Canon.trm_one ?_)
      simp only [zgZ,zgS]
      go_wp2_with fail
      have bb:Below g.heap.size g (g.alloc (.cells #[.int .i64 x0,.int .i64 x1,.int .i64 x2] 74)).drew:=((Below.refl g.heap.size g).alloc (Nat.le_refl _) _).drew
      have bo:Bk (g.alloc (.cells #[.int .i64 x0,.int .i64 x1,.int .i64 x2] 74)).drew g.heap.size 74 [.int .i64 x0,.int .i64 x1,.int .i64 x2]:=(Bk.new g _ _).drew
      have ij:g.heap.size+1<=((g.alloc (.cells #[.int .i64 x0,.int .i64 x1,.int .i64 x2] 74)).drew).heap.size:=by simp
      generalize (g.alloc (.cells #[.int .i64 x0,.int .i64 x1,.int .i64 x2] 74)).drew=wl at *
      have c8:∀ ad,(some ⟨g.heap.size,0,none⟩:Option Addr)=some ad->∀ j u,([.int .i64 x0,.int .i64 x1,.int .i64 x2]:List Value)[j]? = some u->wl.cell? (ad.add j)=some u:=fun ad e j u hj=>by
       injection e with e
       subst e
       rw [Addr.add_lit,Nat.zero_add]
       exact (bo.cell j).trans hj
      have c2:=own_below b4.out bb (Nat.le_refl _)
      have bz:=own_below b3.out bb (Nat.le_refl _)
      have e6:=bl.out.below bb e9
      obtain ⟨gm,cl,bk,cf,cj⟩:=zz5 bo c8 c2 bz e6;clear bo c8 c2 bz e6
      refine Canon.trm_end (fun b9 f=>by subst f;exact bb.block _ e9) (Canon.trm_one ?_)
      simp only [zgZ,zgS]
      refine wpList_append_opt rfl (.tmp 46) (.tmp 52) 65 rfl d.heap.size Tryz.underlying65 infoPt rfl (by decide) _ k (flat3 (ptsOf P (O.take k))) rfl bk.out (some ⟨g.heap.size,0,none⟩) 1 1 [.int .i64 x0,.int .i64 x1,.int .i64 x2] rfl rfl (fun h=>by cases h) cl.out (by simp [Value.oneCell']) (by omega) (by decide) (by omega) ?_
      intro v' w6 r au ai _
      obtain ⟨A7,ag,rfl,gp⟩:=own_form r
      rw [show flat3 (ptsOf P (O.take k))++[.int .i64 x0,.int .i64 x1,.int .i64 x2]=flat3 (ptsOf P (O.take (k+1))) by rw [f3.out,flat3_snoc]] at r
      have g4:some z≠(Value.slice V k m).ownBlock:=by
       rcases own_bk bk.out cj.out (by decide) with f | f
       ·rw [f];simp
       ·exact fun e=>f e.symm
      have ab:=cj.out.grown au g4
      have bx:=cf.out.kept au (own_apart bk.out cf.out (by decide))
      have s2:w6.cell? ⟨z,2,none⟩=some (.slice V k m):=ab.cell 2
      have sf:=ab.frozen
      have e4:=ab.set 2 (.slice A7 (k+1) ag)
      have du:=bx.kept (grow_cell w6 z 2 (.slice A7 (k+1) ag)) (own_bk bx ab (by decide))
      have dz:=r.kept (grow_cell w6 z 2 (.slice A7 (k+1) ag)) (own_bk r ab (by decide))
      have fb:=((ac.trans (bb.mono gc)).trans ai).setCell (p:=⟨z,2,none⟩) fc (.slice A7 (k+1) ag)
      have g0:Canon.KeepU (fun b9=>b9=z) g.drew w6:=fun b9 f=>by subst f;exact ab.trans bl.out.symm
      obtain ⟨cn,gi,gx,gu,et,em,ep⟩:=zz7 r au ab bx e4 du dz;clear r au ab bx e4 du dz
      refine Canon.trm_end g0 (Canon.trm_seg ?_)
      simp only [zmC,zmN,zgZ,zgS]
      go_wp2_with fail
      refine Canon.trm_to (Canon.trm_one ?_)
      simp only [zgZ,zgS]
      go_wp2_with fail
      refine Canon.trm_last (Canon.trm_fin (by rfl) (List.forall_mem_cons.2 ⟨.inl ⟨_,rfl,rfl,by rw [World.cell?_drew,q2];rfl⟩,fun _ h=>by cases h⟩) ?_)
      go_wp2_with fail
      exact ⟨⟨k+1,A7,ag,by omega,by simp,et.out,em.out,ep.out,fb⟩,by simp [intOf];omega⟩
     ·obtain rfl:k=O.length:=by omega
      rw [List.take_length] at U
      have Q:=bv.out.below ac (by omega)
      have r0:g.cell? ⟨w.heap.size+1,0,none⟩=some (.int .i64 0):=Q.cell 0
      have r1:g.cell? ⟨w.heap.size+1,1,none⟩=some (.slice none 0 0):=Q.cell 1
      have r2:g.cell? ⟨w.heap.size+1,2,none⟩=some (.slice none 0 0):=Q.cell 2
      have r3:g.cell? ⟨w.heap.size+1,3,none⟩=some (.slice none 0 0):=Q.cell 3
      have rf:=Q.frozen
      have q0:g.cell? ⟨z,0,none⟩=some (.int .i64 (O.length:Nat)):=L.cell 0
      have q1:g.cell? ⟨z,1,none⟩=some (.slice s t v):=L.cell 1
      have q2:g.cell? ⟨z,2,none⟩=some (.slice V O.length m):=L.cell 2
      have q3:g.cell? ⟨z,3,none⟩=some (.slice A2 K.length C):=L.cell 3
      have R:=(((Q.set 0 (.int .i64 (O.length:Nat))).set 1 (.slice s t v)).set 2 (.slice V O.length m)).set 3 (.slice A2 K.length C)
      have J:=(((fz.setCell (p:=⟨w.heap.size+1,0,none⟩) (by show w.heap.size<=w.heap.size+1;omega) (.int .i64 (O.length:Nat))).setCell (p:=⟨w.heap.size+1,1,none⟩) (by show w.heap.size<=w.heap.size+1;omega) (.slice s t v)).setCell (p:=⟨w.heap.size+1,2,none⟩) (by show w.heap.size<=w.heap.size+1;omega) (.slice V O.length m)).setCell (p:=⟨w.heap.size+1,3,none⟩) (by show w.heap.size<=w.heap.size+1;omega) (.slice A2 K.length C)
      have d9:g.heap.size<=((((g.setCell ⟨w.heap.size+1,0,none⟩ (.int .i64 (O.length:Nat))).setCell ⟨w.heap.size+1,1,none⟩ (.slice s t v)).setCell ⟨w.heap.size+1,2,none⟩ (.slice V O.length m)).setCell ⟨w.heap.size+1,3,none⟩ (.slice A2 K.length C)).heap.size:=by simp
      have ax:∀ b,w2.heap.size<=b->((((g.setCell ⟨w.heap.size+1,0,none⟩ (.int .i64 (O.length:Nat))).setCell ⟨w.heap.size+1,1,none⟩ (.slice s t v)).setCell ⟨w.heap.size+1,2,none⟩ (.slice V O.length m)).setCell ⟨w.heap.size+1,3,none⟩ (.slice A2 K.length C)).heap[b]? = g.heap[b]?:=fun b h1 =>
       (Below.heap_setCell _ ⟨w.heap.size+1,3,none⟩ _ b (by show b≠w.heap.size+1;omega)).trans ((Below.heap_setCell _ ⟨w.heap.size+1,2,none⟩ _ b (by show b≠w.heap.size+1;omega)).trans ((Below.heap_setCell _ ⟨w.heap.size+1,1,none⟩ _ b (by show b≠w.heap.size+1;omega)).trans (Below.heap_setCell _ ⟨w.heap.size+1,0,none⟩ _ b (by show b≠w.heap.size+1;omega))))
      generalize g9:(((g.setCell ⟨w.heap.size+1,0,none⟩ (.int .i64 (O.length:Nat))).setCell ⟨w.heap.size+1,1,none⟩ (.slice s t v)).setCell ⟨w.heap.size+1,2,none⟩ (.slice V O.length m)).setCell ⟨w.heap.size+1,3,none⟩ (.slice A2 K.length C)=wF at *
      have cz:∀ wz:World,(∀ b,w.heap.size<=b->b<wF.heap.size->wz.heap[b]? = wF.heap[b]?)->OpenMade wz N T P K l (.agg #[.int .i64 (O.length:Nat),.slice s t v,.slice V O.length m,.slice A2 K.length C]) (.slice Ao O.length co):=fun wz f=>by
       have h8:∀ b,w2.heap.size<=b->b<g.heap.size->wz.heap[b]? = g.heap[b]?:=fun b k1 k2=>(f b (by omega) (by omega)).trans (ax b k1)
       obtain ⟨sv,hx,g1,g2⟩:=bq.out rfl wz fun b k1 k2=>(h8 b k1 (by omega)).trans ((ac.block b (by omega)).trans (ah.block b k2))
       rw [ar.out] at hx g2
       injection hx with hx
       have hx:=congrArg Array.toList hx
       simp only [List.cons.injEq] at hx
       obtain ⟨_,db,_⟩:=hx
       subst db
       have g6:(ptsOf P O).length=O.length:=by unfold ptsOf;rw [List.length_map]
       have fy:wz.ownsRow d.heap.size 74 3 (.slice V O.length m) (ptsOf P O).length (flat3 (ptsOf P O)):=by
        rw [g6]
        exact own_moved U (Nat.le_refl _) fun b k1 k2=>h8 b (by omega) k2
       have fx:=own_moved a4 (Nat.le_refl _) fun b k1 k2=>h8 b (by omega) k2
       refine ⟨.slice s t v,.slice V O.length m,.slice A2 K.length C,by rw [ar.out],g1,?_,?_,?_⟩
       ·rw [ar.out]
        exact Sl.of_own fy fun i a hi=>flat3_at _ i a hi
       ·exact Sl.of_own fx fun i a hi=>by
         unfold RInt
         have ec:=(List.getElem?_eq_some_iff.1 hi).1
         unfold ivals
         rw [Nat.mul_one,List.drop_eq_getElem_cons (by simpa using ec)]
         simp only [List.take_succ_cons,List.take_zero,List.getElem_map]
         rw [List.getElem?_eq_getElem ec] at hi
         rw [Option.some.inj hi]
       ·rw [ar.out];exact g2
      obtain ⟨bl,b3,b4,eo,eq,gj,X,W,gn,fp,dh⟩:=zz11 L a4 U b6 b7 Q R J d9 ax cz;clear L a4 U b6 b7 Q R J d9 ax cz
      go_wp2_with fail
      try rw [g9]
      refine ret_ctt rfl rfl X.out Tryz.underlying67 rfl (by kernel_rfl) rfl ?_
      exact ⟨⟨_,_,0,rfl,bm.out,fun f=>absurd rfl f,fun _=>dh.out⟩,W.out⟩
end Go.Proofs.YtpbdcppaiafbgaaGreat
namespace Go.Words
open Go Go.RowKit Go.Mesh
theorem made_zero (n:Nat):madeCells #[Value.int .i64 0,.int .i64 0,.int .i64 0] n=(List.replicate n (Value.int .i64 0)).toArray:=by
 refine Array.ext (by simp [madeCells]) fun i h1 h2=>?_
 have a:i % 3=0\/i % 3=1\/i % 3=2:=by omega
 simp only [madeCells,Array.getElem_map,Array.getElem_range,List.getElem_toArray,List.getElem_replicate]
 show (#[Value.int .i64 0,.int .i64 0,.int .i64 0])[i % 3]! = _
 rcases a with h | h | h <;> rw [h] <;> rfl
end Go.Words
namespace Go.Proofs.YtpbdcppaiafbgaaGreat
open Go Go.RowKit Go.Words Go.Mesh
theorem flat3_zero (n:Nat):flat3 (List.replicate n ((0:Int),(0:Int),(0:Int)))=List.replicate (n * 3) (Value.int .i64 0) :=
 List.eq_replicate_iff.2 ⟨by rw [flat3_len,List.length_replicate],fun u a=>by
  unfold flat3 at a
  obtain ⟨x,b,a⟩:=List.mem_flatMap.1 a
  obtain ⟨_,rfl⟩:=List.mem_replicate.1 b
  simpa using a⟩
theorem flat3_put (x:T3) (L:List T3):∀ m,m<L.length->(((flat3 L).set (m * 3) (.int .i64 x.1)).set (m * 3+1) (.int .i64 x.2.1)).set (m * 3+2) (.int .i64 x.2.2)=flat3 (L.set m x):=by
 induction L with
 | nil=>intro m h;simp at h
 | cons y L ih =>
  intro m h
  cases m with
  | zero=>simp [flat3]
  | succ m =>
   have a:=ih m (by simpa using h)
   rw [show (m+1) * 3=m * 3+1+1+1 by omega]
   simp only [flat3,List.flatMap_cons,List.cons_append,List.nil_append,List.set_cons_succ] at a ⊢
   rw [a]
theorem bk_apart {W:World} {g gm:Nat} {cs cs':List Value} (h:Bk W gm 74 cs) (h2:Bk W g 67 cs'):gm≠g:=fun e=>by
 subst e
 have h:=Option.some.inj (h.symm.trans h2)
 injection h with _ h3
 exact absurd h3 (by decide)
theorem own_point {V:World} {base n g i:Nat} {v u:Value} {xs cs:List Value} (h:V.ownsRow base 3 1 v n xs) (hb:Bk V g 74 cs):(V.setCell ⟨g,i,none⟩ u).ownsRow base 3 1 v n xs :=
 h.kept (grow_cell V g i u) (own_bk h hb (by decide))
theorem run_make_pts (n:Nat) (hn:n<=1000000) (w:World) :
  (Instr.makeSlice 65 (.int .i64 (n:Int)) (.int .i64 (n:Int))).run Tryz.prog w=.ok (.slice (some ⟨w.heap.size,0,none⟩) n n) (w.alloc (.cells (flat3 (List.replicate n ((0:Int),(0:Int),(0:Int)))).toArray 74)):=by
 obtain ⟨e,f,b,c,d⟩:=info_parts infoPt
 have h:(e.bytes:Int) * (n:Int)<=281474976710656:=by rw [d];omega
 have a:=run_make (P:=Tryz.prog) w 65 74 e _ Tryz.underlying65 f b .i64 .i64 n n (by omega) (by omega) h (by omega)
 simp only [Int.toNat_natCast] at a
 rw [a,c,flat3_zero]
 have:(Value.agg #[.int .i64 0,.int .i64 0,.int .i64 0]).cells=#[Value.int .i64 0,.int .i64 0,.int .i64 0]:=rfl
 rw [this,made_zero]
def JoinLaid (w7:World) (K:List Int) (M:Nat) (xv:Value) (s22:Value) (wx:World):Prop :=
 ∃ g22 gm A2 cap2,s22=.pointer (some ⟨g22,0,none⟩)/\w7.heap.size<=g22/\w7.heap.size<=gm/\Bk wx g22 67 [.int .i64 (M:Nat),xv,.slice (some ⟨gm,0,none⟩) M M,.slice A2 K.length cap2] /\
  Bk wx gm 74 (flat3 (List.replicate M ((0:Int),(0:Int),(0:Int))))/\wx.ownsRow w7.heap.size 3 1 (.slice A2 K.length cap2) K.length (ivals K)/\Below w7.heap.size w7 wx
theorem JoinLaid.below {w7 wx:World} {K:List Int} {M:Nat} {xv s22:Value} (h:JoinLaid w7 K M xv s22 wx):Below w7.heap.size w7 wx:=by
 obtain ⟨_,_,_,_,_,_,_,_,_,_,h⟩:=h
 exact h
theorem laid_put {w7 W:World} {K:List Int} {M g gm cap2:Nat} {A2:Option Addr} {xv:Value} (km:Bk W gm 74 (flat3 (List.replicate M ((0:Int),(0:Int),(0:Int))))) (kb:Bk W g 67 [.int .i64 0,.slice none 0 0,.slice none 0 0,.slice none 0 0])
  (ko:W.ownsRow w7.heap.size 3 1 (.slice A2 K.length cap2) K.length (ivals K)) (hW:Below w7.heap.size w7 W) (h1:w7.heap.size<=g) (h2:w7.heap.size<=gm) :
  JoinLaid w7 K M xv (.pointer (some ⟨g,0,none⟩)) ((((W.setCell ⟨g,0,none⟩ (.int .i64 (M:Nat))).setCell ⟨g,1,none⟩ xv).setCell ⟨g,2,none⟩ (.slice (some ⟨gm,0,none⟩) M M)).setCell ⟨g,3,none⟩ (.slice A2 K.length cap2)):=by
 have b:gm≠g:=fun e=>by
  subst e
  have h:=Option.some.inj (km.symm.trans kb)
  injection h with _ h3
  exact absurd h3 (by decide)
 have a:∀ (V:World) (i:Nat) (u:Value) (cs:List Value),Bk V g 67 cs->V.ownsRow w7.heap.size 3 1 (.slice A2 K.length cap2) K.length (ivals K)->(V.setCell ⟨g,i,none⟩ u).ownsRow w7.heap.size 3 1 (.slice A2 K.length cap2) K.length (ivals K):=fun V i u cs hb h=>h.kept (grow_cell V g i u) (own_bk h hb (by decide))
 refine ⟨g,gm,A2,cap2,rfl,h1,h2,(((kb.set 0 _).set 1 _).set 2 _).set 3 _,(((km.far b _).far b _).far b _).far b _,
  a _ 3 _ _ (((kb.set 0 _).set 1 _).set 2 _) (a _ 2 _ _ ((kb.set 0 _).set 1 _) (a _ 1 _ _ (kb.set 0 _) (a _ 0 _ _ kb ko))),?_⟩
 exact (((hW.setCell (p:=⟨g,0,none⟩) h1 _).setCell (p:=⟨g,1,none⟩) h1 _).setCell (p:=⟨g,2,none⟩) h1 _).setCell (p:=⟨g,3,none⟩) h1 _
end Go.Proofs.YtpbdcppaiafbgaaGreat
