/- Walks: two border loops joined (glue's Join): a loop's places, the pairs. -/
import Derived.Test.YtpbdcppaiafbgaaGreatOG
import Derived.Test.YtpbdcppaiafbgaaGreatOA
set_option maxRecDepth 100000
set_option maxHeartbeats 8000000
namespace Go.Mesh
theorem tmod_emod (i n:Int):(i.tmod n) % n=i % n:=by
 have h:=Int.tmod_def i n
 have a:i=i.tmod n+n * i.tdiv n:=by omega
 have b:i % n=(i.tmod n+n * i.tdiv n) % n:=by rw [<- a]
 rw [b,Int.add_mul_emod_self_left]
theorem tmod_near (i:Int) {n:Int} (hn:0<n):-n<i.tmod n/\i.tmod n<n:=by
 have a:=Int.lt_tmod_of_pos i hn
 have b:=Int.tmod_lt_of_pos i hn
 exact ⟨a,b⟩
theorem tmod_round (i:Int) {n:Int} (hn:0<n):(i.tmod n+n).tmod n=i % n/\(i.tmod n+n) % n=i % n:=by
 have h:=tmod_near i hn
 have a:(i.tmod n+n) % n=i % n:=by rw [Int.add_emod_right,tmod_emod i n]
 exact ⟨by rw [Int.tmod_eq_emod_of_nonneg (by omega)];exact a,a⟩
def jpt (O:List Int) (P:List T3) (n:Nat):Nat->List T3
 | 0=>List.replicate n (0,0,0)
 | r+1=>(jpt O P n r).set (O.getD (O.length - 1 - r) 0).toNat (P.getD (O.length - 1 - r) (0,0,0))
theorem jpt_len (O:List Int) (P:List T3) (n:Nat):∀ r,(jpt O P n r).length=n
 | 0=>by unfold jpt;simp
 | r+1=>by unfold jpt;rw [List.length_set,jpt_len O P n r]
end Go.Mesh
namespace Go.Proofs.YtpbdcppaiafbgaaGreat
open Go Go.RowKit Go.Words Go.Mesh
theorem jat_calls {w:World} {gn g cap n:Nat} {l:List Nat} (hbx:Bk w gn 3 [.int .i64 (n:Int)]) (hn:l.length=n) (hcells:∀ k (hk:k<l.length),w.cell? ⟨g,k,none⟩=some (.int .i64 (l[k]:Int))) (hpos:0<n) (hll:n<=1000000) (i:Int) :
  Calls Tryz.prog 90 #[.slice (some ⟨g,0,none⟩) l.length cap,.int .i64 i,.pointer (some ⟨gn,0,none⟩)] w fun e w'=>e=.returned (.int .i64 (jAt l i))/\Below w.heap.size w w':=by
 have b:(0:Int)<(n:Int):=by omega
 obtain ⟨v,y⟩:=tmod_near i b
 obtain ⟨j,o⟩:=tmod_round i b
 have d:=Int.emod_nonneg i (show (n:Int)≠0 by omega)
 have f:=Int.emod_lt_of_pos i b
 obtain ⟨r,c⟩:∃ r:Nat,i % (n:Int)=(r:Int):=⟨(i % (n:Int)).toNat,by omega⟩
 rw [c] at j o d f
 have a:r<l.length:=by omega
 have h:jAt l i=(l[r]:Int):=by
  unfold jAt
  rw [hn,c,Int.toNat_natCast,List.getD_eq_getElem?_getD,List.getElem?_eq_getElem a];rfl
 have t:=hcells r a
 rw [h]
 generalize l[r]=x at *
 obtain ⟨m,u⟩:∃ m,i.tmod (n:Int)=m:=⟨_,rfl⟩
 rw [u] at v y j o
 have C:r<n:=by omega
 have q:w.cell? ⟨gn,0,none⟩=some (.int .i64 (n:Int)):=hbx.cell 0
 have A:w.drew.cell? ⟨gn,0,none⟩=some (.int .i64 (n:Int)):=q
 have B:w.drew.cell? ⟨g,r,none⟩=some (.int .i64 (x:Int)):=t
 have s:=(Below.refl w.heap.size w).drew
 clear h hcells c d f
 obtain ⟨p,z⟩:=zz2 hbx hn;clear hbx hn
 go_enter Tryz.func90,Tryz.ntmps90
 go_wp2_with fail
 refine Canon.wp_region_text mixed (by kernel_rfl) ?_
 go_wp2_with fail
 refine Canon.chk (by rfl) ?_
 go_wp2_with fail
 go_ret
 exact ⟨rfl,s⟩
theorem ret_ct {P:Program} {fn:Func} {p q:Tmp} {ty:TypeId} (h:fn.results=#[.cell q ty,.tmp p]) {R:Ending->World->Prop} {a:Act} {w:World} {g:Nat} {t:TypeId} {cs:List Value} {d:TypeDesc}
  (hp:a.tmps.getD q undef=.pointer (some ⟨g,0,none⟩)) (hg:Bk w g t cs) (hu:P.underlying ty=some d)
  (hd:(match d with | .struct _ | .array _ _=>true | _=>false)=true) (hi:(P.info? ty).map (·.size)=some cs.length) (hde:a.defers=[])
  (hR:R (.returned (.tuple #[.agg cs.toArray,a.tmps.getD p undef])) w):bodyPost P fn R .ret a w:=by
 refine bodyPost_ret ?_ hde hR
 have b:a.tmps[q]?.getD undef=.pointer (some ⟨g,0,none⟩):=by simpa using hp
 simp [results,h,b,asAddr,run_loadVar_row w g t ty cs.toArray (0,0) d hg hu hd (by simpa using hi)]
theorem bedges_ok {N:Int} {T:List T3} (hs:Surf N T) {e:Int × Int} (he:e∈bedges T):ok2 e:=by
 unfold bedges at he
 obtain ⟨c,a,rfl⟩:=List.mem_map.1 he
 have a:=(mem_bord.1 a).1
 have b:=hs.rng _ (nx_lt a)
 have d:=hs.rng _ (pv_lt a)
 have f:=hs.nmax
 unfold eg
 exact ⟨by unfold I64;simp only [];omega,by unfold I64;simp only [];omega⟩
theorem sewOf_rng {N:Int} {T:List T3} (hs:Surf N T) {J:List P4} (hb:∀ e∈edgs J,e∈bedges T) (k:Nat) (hk:k<(sewOf (labP J) N.toNat).length):∃ m:Nat,(sewOf (labP J) N.toNat)[k]=(m:Int)/\m<rnk (labP J) N.toNat:=by
 have g:∀ e∈edgs J,0<=e.1/\0<=e.2:=fun e he=>by
  have a:=hb e he
  unfold bedges at a
  obtain ⟨c,b,rfl⟩:=List.mem_map.1 a
  have b:=(mem_bord.1 b).1
  unfold eg
  exact ⟨(hs.rng _ (nx_lt b)).1,(hs.rng _ (pv_lt b)).1⟩
 have l:∀ v,0<=v->0<=labP J v:=labE_nonneg fun e he=>by
  obtain ⟨p,f,h⟩:=mem_edP.1 he
  have i:=g p.1 (List.mem_flatMap.2 ⟨p,f,by simp⟩)
  have j:=g p.2 (List.mem_flatMap.2 ⟨p,f,by simp⟩)
  rcases h with rfl | rfl
  ·exact ⟨i.1,j.2⟩
  ·exact ⟨i.2,j.1⟩
 have o:k<N.toNat:=by unfold sewOf at hk;simpa using hk
 have a:=numL_lt (labE_lab (edP J)) l (v:=(k:Int)) (n:=N.toNat) (by omega) (by omega)
 have d:(sewOf (labP J) N.toNat)[k]? = some (numL (labP J) (k:Int)):=by
  unfold sewOf
  rw [List.getElem?_map,List.getElem?_range o];rfl
 rw [List.getElem?_eq_getElem hk] at d
 have e:=Option.some.inj d
 have q:0<=numL (labP J) (k:Int)/\numL (labP J) (k:Int)<(rnk (labP J) N.toNat:Nat):=a
 exact ⟨(numL (labP J) (k:Int)).toNat,by rw [e];omega,by omega⟩
abbrev noBody:Value:=.agg #[.int .i64 0,.slice none 0 0,.slice none 0 0,.slice none 0 0]
def JoinC (N:Int) (T P:List T3) (K:List Int) (x y turn c:Int):Prop :=
 (¬ Surf N T/\c=11)\/(Surf N T/\mayB N T P K=false/\c=1)\/(Surf N T/\mayB N T P K=true/\(x<0\/y<0\/((lps T N N.toNat).length:Int)<=x\/((lps T N N.toNat).length:Int)<=y)/\c=2) \/
 (Surf N T/\mayB N T P K=true/\∃ i j:Nat,∃ (hi:i<(lps T N N.toNat).length) (hj:j<(lps T N N.toNat).length),x=(i:Int)/\y=(j:Int) /\
  (
    (i=j/\c=9)\/(i≠j/\(lps T N N.toNat)[j].length≠(lps T N N.toNat)[i].length/\c=13) \/
    (
      i≠j/\(lps T N N.toNat)[j].length=(lps T N N.toNat)[i].length /\
      (
        (¬ Surf (rnk (labP (joinP (lps T N N.toNat)[i] (lps T N N.toNat)[j] turn)) N.toNat:Nat) (sewT (labP (joinP (lps T N N.toNat)[i] (lps T N N.toNat)[j] turn)) T)/\c=11) \/
        (Surf (rnk (labP (joinP (lps T N N.toNat)[i] (lps T N N.toNat)[j] turn)) N.toNat:Nat) (sewT (labP (joinP (lps T N N.toNat)[i] (lps T N N.toNat)[j] turn)) T)/\c=0)))))
def JoinMade (wz:World) (N:Int) (T P:List T3) (K:List Int) (x y turn:Int) (v:Value):Prop :=
 ∃ sv pv kv,v=.agg #[.int .i64 (rnk (labP (joinP ((lps T N N.toNat).getD x.toNat []) ((lps T N N.toNat).getD y.toNat []) turn)) N.toNat:Nat),sv,pv,kv] /\
  Sl 3 RTri wz wz.heap.size sv (sewT (labP (joinP ((lps T N N.toNat).getD x.toNat []) ((lps T N N.toNat).getD y.toNat []) turn)) T) /\
  Sl 3 RTri wz wz.heap.size pv (jpt (sewOf (labP (joinP ((lps T N N.toNat).getD x.toNat []) ((lps T N N.toNat).getD y.toNat []) turn)) N.toNat) P (rnk (labP (joinP ((lps T N N.toNat).getD x.toNat []) ((lps T N N.toNat).getD y.toNat []) turn)) N.toNat) N.toNat) /\
  Sl 1 RInt wz wz.heap.size kv K
def JoinEnd (w w':World) (N:Int) (T P:List T3) (K:List Int) (x y turn:Int) (v:Value) (c:Int):Prop :=
 JoinC N T P K x y turn c/\(c≠0->v=noBody)/\(c=0->∀ wz:World,(∀ b,w.heap.size<=b->b<w'.heap.size->wz.heap[b]? = w'.heap[b]?)->JoinMade wz N T P K x y turn v)
theorem join45_calls {w:World} {B:Nat} {sv pv kv:Value} {N:Int} {T P:List T3} {K:List Int} (hB0:B<=w.heap.size) (hT:Sl 3 RTri w B sv T) (hP:Sl 3 RTri w B pv P) (hK:Sl 1 RInt w B kv K) (hN:I64 N) (hTl:T.length<=100000) (hPl:P.length<=100000) (hKl:K.length<=1000000) (x y turn:Int) (hx:I64 x) (hy:I64 y) (_htn:I64 turn) :
  Calls Tryz.prog 44 #[.agg #[.int .i64 N,sv,pv,kv],.int .i64 x,.int .i64 y,.int .i64 turn] w fun e w'=>(∃ v c,e=.returned (.tuple #[v,.int .i64 c])/\JoinEnd w w' N T P K x y turn v c)/\Below w.heap.size w w':=by
 obtain ⟨A,cap,rfl,nk⟩:=hT.form
 obtain ⟨Ap,aw,rfl,mt⟩:=hP.form
 obtain ⟨Ak,a0,rfl,ms⟩:=hK.form
 have dd:=((Below.refl w.heap.size w).alloc (Nat.le_refl _) (.cells #[.int .i64 N,.slice A T.length cap,.slice Ap P.length aw,.slice Ak K.length a0] 67)).alloc (by simp) (.cells #[.int .i64 0,.slice none 0 0,.slice none 0 0,.slice none 0 0] 67)
 have eq:=(Bk.new w 67 [.int .i64 N,.slice A T.length cap,.slice Ap P.length aw,.slice Ak K.length a0]).alloc (.cells #[.int .i64 0,.slice none 0 0,.slice none 0 0,.slice none 0 0] 67)
 have gc:=Bk.new' (n:=w.heap.size+1) (w:=w.alloc (.cells #[.int .i64 N,.slice A T.length cap,.slice Ap P.length aw,.slice Ak K.length a0] 67)) 67 [.int .i64 0,.slice none 0 0,.slice none 0 0,.slice none 0 0] (by simp)
 have p4:w.heap.size+2<=((w.alloc (.cells #[.int .i64 N,.slice A T.length cap,.slice Ap P.length aw,.slice Ak K.length a0] 67)).alloc (.cells #[.int .i64 0,.slice none 0 0,.slice none 0 0,.slice none 0 0] 67)).heap.size:=by simp
 have ft:=hT.below keeps_tri (dd.mono hB0)
 have io:=hP.below keeps_tri (dd.mono hB0)
 have ij:=hK.below keeps_int (dd.mono hB0)
 generalize ll:(w.alloc (.cells #[.int .i64 N,.slice A T.length cap,.slice Ap P.length aw,.slice Ak K.length a0] 67)).alloc (.cells #[.int .i64 0,.slice none 0 0,.slice none 0 0,.slice none 0 0] 67)=w0 at *
 have c0:w0.cell? ⟨w.heap.size,0,none⟩=some (.int .i64 N):=eq.cell 0
 have c1:w0.cell? ⟨w.heap.size,1,none⟩=some (.slice A T.length cap):=eq.cell 1
 have j5:=new_calls (.slice A T.length cap) N T w0 (B:=B) (by omega) ft hN
 have o8:=fun w=>build_body0 w
 have ep:∀ (wz:World) (hz:Below w0.heap.size w0 wz),Bk ((((wz.setCell ⟨w.heap.size+1,0,none⟩ (.int .i64 0)).setCell ⟨w.heap.size+1,1,none⟩ (.slice none 0 0)).setCell ⟨w.heap.size+1,2,none⟩ (.slice none 0 0)).setCell ⟨w.heap.size+1,3,none⟩ (.slice none 0 0)) (w.heap.size+1) 67 [.int .i64 0,.slice none 0 0,.slice none 0 0,.slice none 0 0] /\
   Below w.heap.size w ((((wz.setCell ⟨w.heap.size+1,0,none⟩ (.int .i64 0)).setCell ⟨w.heap.size+1,1,none⟩ (.slice none 0 0)).setCell ⟨w.heap.size+1,2,none⟩ (.slice none 0 0)).setCell ⟨w.heap.size+1,3,none⟩ (.slice none 0 0)):=fun wz hz =>
  ⟨((((gc.below hz (by omega)).set 0 (.int .i64 0)).set 1 (.slice none 0 0)).set 2 (.slice none 0 0)).set 3 (.slice none 0 0),
   ((((dd.trans (hz.mono (by omega))).setCell (p:=⟨w.heap.size+1,0,none⟩) (by show w.heap.size<=w.heap.size+1;omega) (.int .i64 0)).setCell (p:=⟨w.heap.size+1,1,none⟩) (by show w.heap.size<=w.heap.size+1;omega) (.slice none 0 0)).setCell (p:=⟨w.heap.size+1,2,none⟩) (by show w.heap.size<=w.heap.size+1;omega) (.slice none 0 0)).setCell (p:=⟨w.heap.size+1,3,none⟩) (by show w.heap.size<=w.heap.size+1;omega) (.slice none 0 0)⟩
 obtain ⟨o6,o5,o4,fb,fa,f8,dr,bi,jt,an⟩:=zz10 hT hP hK ft io ij eq gc j5 ep;clear hT hP hK ft io ij eq gc j5 ep
 go_enter Tryz.func44,Tryz.ntmps44
 go_wp2_with fail
 clear ll
 refine jt.out.mono ?_
 rintro e w1 ⟨⟨tv,a1,a2,a3,rfl,lh⟩,ar⟩
 have lq:=ar.size
 obtain ⟨w2,ja⟩:∃ w2,w1.alloc (.cells #[.int .i64 a1,.int .i64 a2,.int .i64 a3] 48)=w2:=⟨_,rfl⟩
 have fy:Below w1.heap.size w1 w2:=by rw [<- ja];exact (Below.refl w1.heap.size w1).alloc (Nat.le_refl _) _
 have bo:=ar.trans (fy.mono lq)
 have lr:=bo.size
 have ap:=bi.out.below bo (by omega)
 have r0:w2.cell? ⟨w.heap.size+1,0,none⟩=some (.int .i64 0):=ap.cell 0
 have r1:w2.cell? ⟨w.heap.size+1,1,none⟩=some (.slice none 0 0):=ap.cell 1
 have r2:w2.cell? ⟨w.heap.size+1,2,none⟩=some (.slice none 0 0):=ap.cell 2
 have r3:w2.cell? ⟨w.heap.size+1,3,none⟩=some (.slice none 0 0):=ap.cell 3
 have rf:=ap.frozen
 rcases lh with ⟨hs,cw⟩ | ⟨gi,rfl⟩
 case inr =>
  have hF:=an.out w2 bo
  have a7:JoinC N T P K x y turn 11:=.inl ⟨gi,rfl⟩
  obtain ⟨i4,ai,ao,n5⟩:=zz4 ap hF a7 gi;clear ap hF a7 gi
  go_wp2_with fail
  refine ret_ct rfl rfl ai.out.1 Tryz.underlying67 rfl (by kernel_rfl) rfl ?_
  exact ⟨⟨_,11,rfl,ao.out,fun _=>rfl,fun d=>absurd d (by decide)⟩,ai.out.2⟩
 obtain ⟨pt,li⟩:∃ pt,tv=.pointer (some pt):=by
  obtain ⟨g,_,_,_,_,_,rfl,_⟩:=cw
  exact ⟨_,rfl⟩
 subst li
 have bk:=dr.out.below bo (by omega)
 have d0:w2.cell? ⟨w.heap.size,0,none⟩=some (.int .i64 N):=bk.cell 0
 have d1:w2.cell? ⟨w.heap.size,1,none⟩=some (.slice A T.length cap):=bk.cell 1
 have d2:w2.cell? ⟨w.heap.size,2,none⟩=some (.slice Ap P.length aw):=bk.cell 2
 have d3:w2.cell? ⟨w.heap.size,3,none⟩=some (.slice Ak K.length a0):=bk.cell 3
 have hm:=may_calls (w:=w2) (B:=B) (N:=N) (by omega) (fb.out.below keeps_tri (bo.mono (by omega))) (fa.out.below keeps_tri (bo.mono (by omega))) (f8.out.below keeps_int (bo.mono (by omega))) hTl hPl hKl
 have ev:=cw.below fy (Nat.le_refl _)
 obtain ⟨ac,mo,fj,mf,i4,kx⟩:=zz6 hs cw ev bk ap hm;clear hs cw ev bk ap hm
 go_wp2_with fail
 clear ja
 refine kx.out.mono ?_
 rintro e w3 ⟨rfl,ir⟩
 have eh:=bo.trans (ir.mono lr)
 have ls:=eh.size
 have aq:=bi.out.below eh (by omega)
 have r0:w3.cell? ⟨w.heap.size+1,0,none⟩=some (.int .i64 0):=aq.cell 0
 have r1:w3.cell? ⟨w.heap.size+1,1,none⟩=some (.slice none 0 0):=aq.cell 1
 have r2:w3.cell? ⟨w.heap.size+1,2,none⟩=some (.slice none 0 0):=aq.cell 2
 have r3:w3.cell? ⟨w.heap.size+1,3,none⟩=some (.slice none 0 0):=aq.cell 3
 have rf:=aq.frozen
 cases cc:mayB N T P K with
 | false =>
  have hF:=an.out w3 eh
  have a7:JoinC N T P K x y turn 1:=.inr (.inl ⟨ac.out,cc,rfl⟩)
  obtain ⟨i5,ai,ao,bu⟩:=zz4 aq hF a7 cc;clear aq hF a7 cc
  go_wp2_with fail
  refine ret_ct rfl rfl ai.out.1 Tryz.underlying67 rfl (by kernel_rfl) rfl ?_
  exact ⟨⟨_,1,rfl,ao.out,fun _=>rfl,fun d=>absurd d (by decide)⟩,ai.out.2⟩
 | true =>
  have a6:=bloops_calls (.inl (fj.out.below ir (by have:=fy.size;omega))) ac.out
  obtain ⟨i5,bu,jl⟩:=zz3 aq cc a6;clear aq cc a6
  go_wp2_with fail
  refine jl.out.mono ?_
  rintro e w4 ⟨⟨lv,rfl,ab⟩,it⟩
  have db:=eh.trans (it.mono ls)
  have lu:=db.size
  have oh:=it.size
  have mu:=lps_len T N N.toNat
  have om:=ac.out.nmax
  have ol:=ac.out.n0
  obtain ⟨Ar,cp,rfl⟩:∃ Ar cp,lv=.slice Ar (lps T N N.toNat).length cp:=by
   obtain ⟨vs,_,d,_⟩:=ab
   obtain ⟨Ar,cp,h8,_⟩:=own_form d
   exact ⟨Ar,cp,h8⟩
  have a8:=fun L hL=>ac.out.lps_round (k:=N.toNat) (L:=L) hL
  have ae:=fun i j hi hj dg=>ac.out.lps_apart (k:=N.toNat) (x:=i) (y:=j) hi hj dg
  have aj:=ac.out.lps_each N.toNat
  have bw:=fun c=>(show (x<0\/y<0\/((lps T N N.toNat).length:Int)<=x\/((lps T N N.toNat).length:Int)<=y)/\c=2->JoinC N T P K x y turn c from fun d=>.inr (.inr (.inl ⟨ac.out,bu.out,d.1,d.2⟩)))
  have ba:∀ (c:Int) (i j:Nat) (hi:i<(lps T N N.toNat).length) (hj:j<(lps T N N.toNat).length),x=(i:Int)->y=(j:Int) ->
    (
      (i=j/\c=9)\/(i≠j/\(lps T N N.toNat)[j].length≠(lps T N N.toNat)[i].length/\c=13) \/
      (
        i≠j/\(lps T N N.toNat)[j].length=(lps T N N.toNat)[i].length /\
        (
          (¬ Surf (rnk (labP (joinP (lps T N N.toNat)[i] (lps T N N.toNat)[j] turn)) N.toNat:Nat) (sewT (labP (joinP (lps T N N.toNat)[i] (lps T N N.toNat)[j] turn)) T)/\c=11) \/
          (Surf (rnk (labP (joinP (lps T N N.toNat)[i] (lps T N N.toNat)[j] turn)) N.toNat:Nat) (sewT (labP (joinP (lps T N N.toNat)[i] (lps T N N.toNat)[j] turn)) T)/\c=0))))->JoinC N T P K x y turn c :=
   fun c i j hi hj e1 e2 d=>.inr (.inr (.inr ⟨ac.out,bu.out,i,j,hi,hj,e1,e2,d⟩))
  generalize bq:lps T N N.toNat=L at *
  have af:=bi.out.below db (by omega)
  have r0:w4.cell? ⟨w.heap.size+1,0,none⟩=some (.int .i64 0):=af.cell 0
  have r1:w4.cell? ⟨w.heap.size+1,1,none⟩=some (.slice none 0 0):=af.cell 1
  have r2:w4.cell? ⟨w.heap.size+1,2,none⟩=some (.slice none 0 0):=af.cell 2
  have r3:w4.cell? ⟨w.heap.size+1,3,none⟩=some (.slice none 0 0):=af.cell 3
  have rf:=af.frozen
  by_cases gk:x<0\/y<0\/(L.length:Int)<=x\/(L.length:Int)<=y
  ·have hF:=an.out w4 db
   have a7:=bw 2 ⟨gk,rfl⟩
   obtain ⟨ec,ai,ao,d7,cg,cf,d5,ku,kt,dn⟩:=zz10 af hF a7 ab a8 ae aj bw ba bq;clear af hF a7 ab a8 ae aj bw ba bq
   rcases (by omega:x<0\/(¬ x<0/\y<0)\/(¬ x<0/\¬ y<0/\(L.length:Int)<=x)\/(¬ x<0/\¬ y<0/\¬ (L.length:Int)<=x/\(L.length:Int)<=y)) with q | ⟨q,q2⟩ | ⟨q,q2,q3⟩ | ⟨q,q2,q3,q4⟩
   all_goals
    clear gk
    go_wp2_with fail
    all_goals first | (exfalso;omega) | skip
    refine ret_ct rfl rfl ai.out.1 Tryz.underlying67 rfl (by kernel_rfl) rfl ?_
    exact ⟨⟨_,2,rfl,ao.out,fun _=>rfl,fun d=>absurd d (by decide)⟩,ai.out.2⟩
  obtain ⟨i,rfl⟩:∃ i:Nat,x=(i:Int):=⟨x.toNat,by omega⟩
  obtain ⟨j,rfl⟩:∃ j:Nat,y=(j:Int):=⟨y.toNat,by omega⟩
  have hi:i<L.length:=by omega
  have hj:j<L.length:=by omega
  clear gk
  have a7:=fun c=>ba c i j hi hj rfl rfl
  clear bw ba
  by_cases ci:i=j
  ·have hF:=an.out w4 db
   have g6:=a7 9 (.inl ⟨ci,rfl⟩)
   subst ci
   have lp:((i:Int) == (i:Int))=true:=beq_iff_eq.2 rfl
   obtain ⟨ec,ai,ao,i1,d7,cg,cf,d5,dn⟩:=zz9 af hF a7 g6 ab a8 ae aj bq;clear af hF a7 g6 ab a8 ae aj bq
   go_wp2_with fail
   all_goals first | (exfalso;omega) | skip
   refine ret_ct rfl rfl ai.out.1 Tryz.underlying67 rfl (by kernel_rfl) rfl ?_
   exact ⟨⟨_,9,rfl,i1.out,fun _=>rfl,fun d=>absurd d (by decide)⟩,ai.out.2⟩
  have lp:((i:Int) == (j:Int))=false:=beq_eq_false_iff_ne.2 (by omega)
  obtain ⟨gr,v1,fq,l5,_,b3,cx⟩:=ab.at_ rfl hi
  obtain ⟨oe,v2,c7,l6,_,_,cy⟩:=ab.at_ rfl hj
  subst fq
  injection c7 with c7
  injection c7 with c7
  subst c7
  have ot:=(aj _ (List.getElem_mem hi)).1
  have ow:=(aj _ (List.getElem_mem hj)).1
  have gl:=a8 _ (List.getElem_mem hi)
  have gn:=a8 _ (List.getElem_mem hj)
  have j6:=ae i j hi hj ci
  have ou:L[i].length<=4096:=by
   have h1:=nodup_len gl.2.1 (m:=List.range N.toNat) fun a ha=>List.mem_range.2 (by
    have:=ac.out.lps_lt (k:=N.toNat) (L:=L[i]) (by rw [bq];exact List.getElem_mem hi) ha
    omega)
   rw [List.length_range] at h1
   omega
  have ox:L[j].length<=4096:=by
   have h1:=nodup_len gn.2.1 (m:=List.range N.toNat) fun a ha=>List.mem_range.2 (by
    have:=ac.out.lps_lt (k:=N.toNat) (L:=L[j]) (by rw [bq];exact List.getElem_mem hj) ha
    omega)
   rw [List.length_range] at h1
   omega
  have iy:L.getD i []=L[i]:=by rw [List.getD_eq_getElem?_getD,List.getElem?_eq_getElem hi];rfl
  have iz:L.getD j []=L[j]:=by rw [List.getD_eq_getElem?_getD,List.getElem?_eq_getElem hj];rfl
  generalize L[i]=p at *
  generalize L[j]=q at *
  obtain ⟨gp,ie,rfl,nn,kh⟩:=own_some cx (by omega)
  obtain ⟨gq,ig,rfl,np,ki⟩:=own_some cy (by omega)
  have iw:∀ k (hk:k<p.length),w4.cell? ⟨gp,k,none⟩=some (.int .i64 (p[k]:Int)):=fun k hk=>(cx.cellAt k (by omega)).trans (nvals_at hk)
  have ix:∀ k (hk:k<q.length),w4.cell? ⟨gq,k,none⟩=some (.int .i64 (q[k]:Int)):=fun k hk=>(cy.cellAt k (by omega)).trans (nvals_at hk)
  have n9:w4.drew.cell? ⟨gr,i,none⟩=some (.slice (some ⟨gp,0,none⟩) p.length ie):=l5
  have na:w4.drew.cell? ⟨gr,j,none⟩=some (.slice (some ⟨gq,0,none⟩) q.length ig):=l6
  obtain ⟨w5,ew⟩:∃ w5,(w4.alloc (.cells #[.int .i64 (p.length:Int)] 3)).drew=w5:=⟨_,rfl⟩
  have dw:Below w4.heap.size w4 w5:=by rw [<- ew];exact ((Below.refl w4.heap.size w4).alloc (Nat.le_refl _) _).drew
  have gd:Bk w5 w4.heap.size 3 [.int .i64 (p.length:Int)]:=by rw [<- ew];exact (Bk.new w4 _ _).drew
  have ei:=db.trans (dw.mono lu)
  have p5:w4.heap.size+1<=w5.heap.size:=by rw [<- ew];simp
  have g0:w5.cell? ⟨w4.heap.size,0,none⟩=some (.int .i64 (p.length:Int)):=gd.cell 0
  have b4:=bi.out.below ei (by omega)
  have r0:w5.cell? ⟨w.heap.size+1,0,none⟩=some (.int .i64 0):=b4.cell 0
  have r1:w5.cell? ⟨w.heap.size+1,1,none⟩=some (.slice none 0 0):=b4.cell 1
  have r2:w5.cell? ⟨w.heap.size+1,2,none⟩=some (.slice none 0 0):=b4.cell 2
  have r3:w5.cell? ⟨w.heap.size+1,3,none⟩=some (.slice none 0 0):=b4.cell 3
  have rf:=b4.frozen
  have hF:=an.out w5 ei
  obtain ⟨ec,mi,cn,d7,cg,cf,d5,dn,mp,mq,jw,jx⟩:=zz12 af b4 gd ab a8 ae aj bq cx cy gl gn;obtain ⟨ju,jm,jn,ai,jo,jp⟩:=zz6 j6 iw ix hF iy iz;clear af b4 gd ab a8 ae aj bq cx cy gl gn j6 iw ix hF iy iz
  go_wp2_with fail
  all_goals first | (exfalso;omega) | skip
  refine Canon.wp_region_text mixed (by kernel_rfl) ?_
  go_wp2_with fail
  refine Canon.chk (by rfl) ?_
  by_cases cj:q.length=p.length
  case neg =>
   have lf:((q.length:Int) != (p.length:Int))=true:=bne_iff_ne.2 (by omega)
   have en:=a7 13 (.inr (.inl ⟨ci,cj,rfl⟩))
   obtain ⟨ao,fd⟩:=zz2 a7 en;clear a7 en
   go_wp2_with fail
   all_goals first | (exfalso;omega) | skip
   refine ret_ct rfl rfl ai.out.1 Tryz.underlying67 rfl (by kernel_rfl) rfl ?_
   exact ⟨⟨_,13,rfl,fd.out,fun _=>rfl,fun d=>absurd d (by decide)⟩,ai.out.2⟩
  have lf:((q.length:Int) != (p.length:Int))=false:=bne_eq_false_iff_eq.2 (by omega)
  obtain ⟨m1,m2⟩:=tmod_near turn (show (0:Int)<(p.length:Int) by omega)
  obtain ⟨t1,t2⟩:=tmod_round turn (show (0:Int)<(p.length:Int) by omega)
  have u1:=Int.emod_nonneg turn (show (p.length:Int)≠0 by omega)
  have u2:=Int.emod_lt_of_pos turn (show (0:Int)<(p.length:Int) by omega)
  obtain ⟨r,hr⟩:∃ r:Nat,turn % (p.length:Int)=(r:Int):=⟨(turn % (p.length:Int)).toNat,by omega⟩
  rw [hr] at t1 t2 u1 u2
  have j0:joinP p q turn=joinP p q (r:Int):=joinP_turn p q (by rw [cj,hr,Int.emod_eq_of_lt (by omega) (by omega)])
  obtain ⟨m,hm⟩:∃ m,turn.tmod (p.length:Int)=m:=⟨_,rfl⟩
  rw [hm] at m1 m2 t1 t2
  have oy:r<p.length:=by omega
  have cd:=join_placed ac.out jw.out jx.out cj ju.out turn
  have eo:=placed_zero cd
  have os:p.length<=4096:=by omega
  have od:w5.drew.cell? ⟨w4.heap.size,0,none⟩=some (.int .i64 (p.length:Int)):=g0
  have gj:=Below.refl w5.heap.size w5
  have fv:∀ wz,Below w5.heap.size w5 wz->∀ i:Int,Calls Tryz.prog 90 #[.slice (some ⟨gp,0,none⟩) p.length ie,.int .i64 i,.pointer (some ⟨w4.heap.size,0,none⟩)] wz fun e w'=>e=.returned (.int .i64 (jAt p i))/\Below wz.heap.size wz w':=fun wz hz i =>
   jat_calls (cn.out.below hz cn.out.lt) rfl (fun k hk=>(hz.cell (p:=⟨gp,k,none⟩) (by show gp<_;omega)).trans ((dw.cell (p:=⟨gp,k,none⟩) kh).trans (jm.out k hk))) (by omega) (by omega) i
  have fw:∀ wz,Below w5.heap.size w5 wz->∀ i:Int,Calls Tryz.prog 90 #[.slice (some ⟨gq,0,none⟩) q.length ig,.int .i64 i,.pointer (some ⟨w4.heap.size,0,none⟩)] wz fun e w'=>e=.returned (.int .i64 (jAt q i))/\Below wz.heap.size wz w':=fun wz hz i =>
   jat_calls (cn.out.below hz cn.out.lt) cj (fun k hk=>(hz.cell (p:=⟨gq,k,none⟩) (by show gq<_;omega)).trans ((dw.cell (p:=⟨gq,k,none⟩) ki).trans (jn.out k hk))) (by omega) (by omega) i
  obtain ⟨ao,ds,jq,ey,d6,o7,e9,ea⟩:=zz8 a7 cj j0 cd eo hr fv fw;clear a7 cj j0 cd eo hr fv fw
  go_wp2_with fail
  all_goals first | (exfalso;omega) | skip
  refine Canon.wp_region_text mixed (by kernel_rfl) ?_
  go_wp2_with fail
  refine Canon.chk (by rfl) ?_
  go_wp2_with fail
  clear ew t1 t2 m1 m2 hm
  go_loopw [17,86] (fun pv kv wr=>∃ (k:Nat) (A6:Option Addr) (c5:Nat),k<=p.length/\kv=.int .i64 (k:Int)/\pv=.slice A6 k c5/\wr.ownsRow w5.heap.size 41 4 (.slice A6 k c5) k (quad ((joinP p q (r:Int)).take k))/\Below w5.heap.size w5 wr) (fun _ kv _=>p.length - (intOf kv).toNat)
  case atStart=>exact ⟨0,none,0,by omega,rfl,rfl,World.ownsRow_nil _ _ _ _,by first | exact gj | exact gj.drew | exact gj.drew.drew⟩
  case round =>
   obtain ⟨k,A6,c5,hk,rfl,rfl,b6,au⟩:=hrel
   obtain ⟨wq,ln⟩:∃ wq,wq=wr:=⟨_,rfl⟩
   subst ln
   have lw:=au.size
   by_cases j3:k<p.length
   ·have j8:=joinP_take (q:=q) (turn:=(r:Int)) j3
    have k1:=e9.out wq au ((k:Int)+1)
    have k2:=fun wz hz=>e9.out wz hz (k:Int)
    have k3:=fun wz hz=>ea.out wz hz ((r:Int) - (k:Int))
    have k4:=fun wz hz=>ea.out wz hz ((r:Int) - (k:Int) - 1)
    generalize jAt p ((k:Int)+1)=a1 at *
    generalize jAt p (k:Int)=a2 at *
    generalize jAt q ((r:Int) - (k:Int))=b1 at *
    generalize jAt q ((r:Int) - (k:Int) - 1)=b2 at *
    obtain ⟨k5,l1,l2,l3,l4,ef⟩:=zz6 j8 k1 k2 k3 k4 b6;clear j8 k1 k2 k3 k4 b6
    go_wp2_with fail
    all_goals first | (exfalso;omega) | skip
    refine l1.out.mono ?_
    rintro e x1 ⟨rfl,dj⟩
    have dy:=au.trans (dj.mono lw)
    have jd:=l2.out x1 dy
    have k6:=zz jd;clear jd
    go_wp2_with fail
    all_goals first | (exfalso;omega) | skip
    refine k6.out.mono ?_
    rintro e x2 ⟨rfl,ck⟩
    have dz:=dy.trans (ck.mono dy.size)
    have je:=l3.out x2 dz
    have k7:=zz je;clear je
    go_wp2_with fail
    all_goals first | (exfalso;omega) | skip
    refine k7.out.mono ?_
    rintro e x3 ⟨rfl,gx⟩
    have e0:=dz.trans (gx.mono dz.size)
    have jf:=l4.out x3 e0
    have k8:=zz jf;clear jf
    go_wp2_with fail
    all_goals first | (exfalso;omega) | skip
    refine k8.out.mono ?_
    rintro e x4 ⟨rfl,jb⟩
    have g3:=e0.trans (jb.mono e0.size)
    have lj:Below wq.heap.size wq x4:=((dj.trans (ck.mono dj.size)).trans (gx.mono (Nat.le_trans dj.size ck.size))).trans (jb.mono (Nat.le_trans dj.size (Nat.le_trans ck.size gx.size)))
    have kl:=g3.size
    have ct:=own_below ef.out lj (Nat.le_refl _)
    obtain ⟨wl,ex⟩:∃ wl,x4.alloc (.cells #[.int .i64 a1,.int .i64 a2,.int .i64 b1,.int .i64 b2] 41)=wl:=⟨_,rfl⟩
    have ge:Bk wl x4.heap.size 41 [.int .i64 a1,.int .i64 a2,.int .i64 b1,.int .i64 b2]:=by rw [<- ex];exact Bk.new x4 _ _
    have et:wl.ownsRow w5.heap.size 41 4 (.slice A6 k c5) k (quad ((joinP p q (r:Int)).take k)):=by rw [<- ex];exact ct.alloc _
    have a6:Below w5.heap.size w5 wl:=by rw [<- ex];exact g3.alloc kl _
    have p7:=a6.size
    have es:∀ ad,(some ⟨x4.heap.size,0,none⟩:Option Addr)=some ad->∀ j u,([.int .i64 a1,.int .i64 a2,.int .i64 b1,.int .i64 b2]:List Value)[j]? = some u->wl.cell? (ad.add j)=some u:=fun ad e j u hj=>by
     injection e with e
     subst e
     rw [Addr.add_lit,Nat.zero_add]
     exact (ge.cell j).trans hj
    obtain ⟨ky,n2,fh,ff⟩:=zz4 ct ge et es;clear ct ge et es
    go_wp2_with (at_builtin;refine wpList_append_opt rfl (.tmp 89) (.tmp 115) 29 rfl w5.heap.size Tryz.underlying29 infoPr rfl (by decide) _ k (quad ((joinP p q (r:Int)).take k)) rfl fh.out (some ⟨x4.heap.size,0,none⟩) 1 1 [.int .i64 a1,.int .i64 a2,.int .i64 b1,.int .i64 b2] rfl rfl (fun h=>by cases h) ff.out (by simp [Value.oneCell']) (by omega) (by decide) (by omega) ?_)
    all_goals first | (exfalso;omega) | skip
    intro v' F bx g9 lc _
    clear ex
    obtain ⟨A7,k9,rfl,mr⟩:=own_form bx
    rw [show quad ((joinP p q (r:Int)).take k)++[.int .i64 a1,.int .i64 a2,.int .i64 b1,.int .i64 b2]=quad ((joinP p q (r:Int)).take (k+1)) by rw [k5.out,quad_snoc]] at bx
    have kg:=a6.trans lc
    obtain ⟨fg,md⟩:=zz2 bx g9;clear bx g9
    go_wp2_with fail
    all_goals first | (exfalso;omega) | skip
    exact ⟨⟨k+1,A7,k9,by omega,by simp,rfl,fg.out,kg⟩,by simp [intOf];omega⟩
   ·obtain rfl:k=p.length:=by omega
    rw [List.take_of_length_le (by rw [joinP_len];exact Nat.le_refl _),<- jq.out] at b6
    have bc:(joinP p q turn).length=p.length:=joinP_len _ _ _
    have cv:Sl 4 R4 wq wq.heap.size (.slice A6 p.length c5) (joinP p q turn):=Sl.of_own (base:=w5.heap.size) (e:=41) (xs:=quad (joinP p q turn)) (by rw [bc];exact b6) fun i a hi=>quad_at _ i a hi
    have el:=ei.trans (au.mono ei.size)
    have kp:=el.size
    have fu:=(fb.out.below keeps_tri (el.mono (show B<=w0.heap.size by omega))).keep keeps_tri (Below.refl _ _) (show B<=wq.heap.size by omega)
    have gt:=sew_calls2 (w:=wq) (B:=wq.heap.size) fu cv (Nat.le_refl _) hN (by rw [bc];omega) (fun e he=>bedges_ok ac.out (of_decide_eq_true (d6.out.1 e he)))
    have cs:=dr.out.below el (by omega)
    have d0:wq.cell? ⟨w.heap.size,0,none⟩=some (.int .i64 N):=cs.cell 0
    have d1:wq.cell? ⟨w.heap.size,1,none⟩=some (.slice A T.length cap):=cs.cell 1
    have gb:=ds.out
    obtain ⟨J,hJ⟩:∃ J,joinP p q turn=J:=⟨_,rfl⟩
    have e3:=ao.out
    have e5:=ey.out
    rw [hJ] at gt cv b6 bc e5 e3
    obtain ⟨ef,ml,mx,jz,mh,fe,ib,eb,i7,me⟩:=zz10 b6 cv fu gt cs bc hJ e3 e5 gb;clear b6 cv fu gt cs bc hJ e3 e5 gb
    go_wp2_with fail
    all_goals first | (exfalso;omega) | skip
    refine jz.out.mono ?_
    rintro e w6 ⟨⟨xv,ov,c,rfl,bj,cq⟩,lb⟩
    have ej:=el.trans (lb.mono kp)
    have jc:=ej.size
    have ca:=bi.out.below ej (by omega)
    by_cases g4:c=0
    case neg =>
     have on:(c != 0)=true:=bne_iff_ne.2 g4
     have dh:c=11/\¬ Surf (rnk (labP J) N.toNat:Nat) (sewT (labP J) T)/\NoSew xv ov:=by
      rcases bj with ⟨h1,_⟩ | ⟨_,h1,h2,_⟩ | ⟨_,_,h1,h2,h3⟩ | ⟨_,_,_,h1,_⟩
      ·exact absurd ac.out h1
      ·exact absurd (h1.trans i7.out) h2
      ·exact ⟨h2,h1,h3⟩
      ·exact absurd h1 g4
     obtain ⟨rfl,gg,rfl,rfl⟩:=dh
     have em:=eb.out 11 (.inr (.inr ⟨ci,ds.out,.inl ⟨gg,rfl⟩⟩))
     have b5:=ca.alloc (.cells #[.int .i64 0,.slice none 0 0] 24)
     have c6:=ej.alloc jc (.cells #[.int .i64 0,.slice none 0 0] 24)
     have ii:=an.out _ c6
     have r0:(w6.alloc (.cells #[.int .i64 0,.slice none 0 0] 24)).cell? ⟨w.heap.size+1,0,none⟩=some (.int .i64 0):=b5.cell 0
     have r1:(w6.alloc (.cells #[.int .i64 0,.slice none 0 0] 24)).cell? ⟨w.heap.size+1,1,none⟩=some (.slice none 0 0):=b5.cell 1
     have r2:(w6.alloc (.cells #[.int .i64 0,.slice none 0 0] 24)).cell? ⟨w.heap.size+1,2,none⟩=some (.slice none 0 0):=b5.cell 2
     have r3:(w6.alloc (.cells #[.int .i64 0,.slice none 0 0] 24)).cell? ⟨w.heap.size+1,3,none⟩=some (.slice none 0 0):=b5.cell 3
     have rf:=b5.frozen
     obtain ⟨i2,cl,i6,mj,n4,fc,f7⟩:=zz7 bj cq ca b5 gg em ii;clear bj cq ca b5 gg em ii
     go_wp2_with fail
     all_goals first | (exfalso;omega) | skip
     refine ret_ct rfl rfl f7.out.1 Tryz.underlying67 rfl (by kernel_rfl) rfl ?_
     exact ⟨⟨_,11,rfl,fc.out,fun _=>rfl,fun d=>absurd d (by decide)⟩,f7.out.2⟩
    subst g4
    have i8:∃ O W Ao co,xv=.agg #[.int .i64 (rnk (labP J) N.toNat:Nat),.slice O T.length W]/\ov=.slice Ao (sewOf (labP J) N.toNat).length co/\Surf (rnk (labP J) N.toNat:Nat) (sewT (labP J) T):=by
     rcases bj with ⟨_,h1,_⟩ | ⟨_,_,h2,_⟩ | ⟨_,_,_,h2,_⟩ | ⟨_,_,h1,_,xs,h2,h3,h4⟩
     ·exact absurd h1 (by decide)
     ·exact absurd rfl h2
     ·exact absurd h2 (by decide)
     ·obtain ⟨O,W,rfl,_⟩:=h3.form
      obtain ⟨Ao,co,rfl,_⟩:=h4.form
      rw [show (sewT (labP J) T).length=T.length by unfold sewT;rw [List.length_map]] at h2
      exact ⟨O,W,Ao,co,h2,rfl,h1⟩
    obtain ⟨O,W,Ao,co,rfl,rfl,dc⟩:=i8
    have l9:=dc.nmax
    have g5:=eb.out 0 (.inr (.inr ⟨ci,ds.out,.inr ⟨dc,rfl⟩⟩))
    obtain ⟨M,hM⟩:∃ M,rnk (labP J) N.toNat=M:=⟨_,rfl⟩
    obtain ⟨no,dh⟩:∃ no,(sewOf (labP J) N.toNat).length=no:=⟨_,rfl⟩
    rw [hM] at l9 dc ⊢
    rw [dh]
    obtain ⟨F,di⟩:∃ F,w6.alloc (.cells #[.int .i64 (M:Nat),.slice O T.length W] 24)=F:=⟨_,rfl⟩
    have dx:Below w6.heap.size w6 F:=by rw [<- di];exact (Below.refl w6.heap.size w6).alloc (Nat.le_refl _) _
    have df:Bk F w6.heap.size 24 [.int .i64 (M:Nat),.slice O T.length W]:=by rw [<- di];exact Bk.new w6 _ _
    have p6:w6.heap.size+1<=F.heap.size:=by rw [<- di];simp
    have c6:=ej.trans (dx.mono jc)
    have ik:=f8.out.below keeps_int (c6.mono (show B<=w0.heap.size by omega))
    have ip:=fa.out.below keeps_tri (c6.mono (show B<=w0.heap.size by omega))
    have cr:=dr.out.below c6 (by omega)
    have v0:F.cell? ⟨w6.heap.size,0,none⟩=some (.int .i64 (M:Nat)):=df.cell 0
    have v1:F.cell? ⟨w6.heap.size,1,none⟩=some (.slice O T.length W):=df.cell 1
    have vf:=df.frozen
    have v2:F.cell? ⟨w.heap.size,2,none⟩=some (.slice Ap P.length aw):=cr.cell 2
    have v3:F.cell? ⟨w.heap.size,3,none⟩=some (.slice Ak K.length a0):=cr.cell 3
    have ch:B<=F.heap.size:=by omega
    have og:((0:Int) != 0)=false:=rfl
    obtain ⟨i2,cl,i6,ic,dt,mw,i0,n1,bz,ji,mg⟩:=zz11 bj cq ca hM dh dc g5 df ik ip cr;clear bj cq ca hM dh dc g5 df ik ip cr
    go_upto_region 26 with fail
    all_goals first | (exfalso;omega) | skip
    try rw [di]
    clear di
    go_cut [22] (fun s22 wx=>JoinLaid F K M (.slice O T.length W) s22 wx)
    case first =>
     have H:=(Below.refl F.heap.size F).drew
     have oq:=fun w=>run_make_pts M (by omega) w
     have m7:F.drew.cell? ⟨w6.heap.size,0,none⟩=some (.int .i64 (M:Nat)):=v0
     have pa:F.drew.cell? ⟨w6.heap.size,1,none⟩=some (.slice O T.length W):=v1
     have m9:F.drew.cell? ⟨w.heap.size,3,none⟩=some (.slice Ak K.length a0):=v3
     have oj:w6.heap.size<F.heap.size:=by omega
     have nr:w.heap.size<F.heap.size:=by omega
     clear v0 v1 v3
     go_wp2_with fail
     refine Canon.wp_region_tree [0,2,5] (fun b9=>b9=w6.heap.size\/b9=w.heap.size) (.seg [0,1,2,4,5] (.alt 3 (.alt 6 (.seg [7] (.alt 8 (.alt 9 .fin .no) .no)) (.alt 8 (.alt 6 (.seg [7] (.alt 9 .fin .no)) .no) .no)) (.alt 6 (.alt 3 (.seg [7] (.alt 8 (.alt 9 .fin .no) .no)) (.alt 8 (.alt 3 (.seg [7] (.alt 9 .fin .no)) .no) .no)) (.alt 8 (.alt 3 (.alt 6 (.seg [7] (.alt 9 .fin .no)) .no) (.alt 6 (.alt 3 (.seg [7] (.alt 9 .fin .no)) .no) .no)) .no)))) mixed (by kernel_rfl) ?_
     generalize F.drew=C at *
     have v0:=m7
     have v3:=m9
     have pb:=H.size
     refine Canon.tr_seg ?_
     simp only [zmC,zmN,zgZ,zgS]
     go_wp2_with fail
     refine Canon.tr_to (Canon.tr_alt ?_ (Canon.tr_alt ?_ (Canon.tr_one ?_)))
     ·simp only [zgZ,zgS]
      go_wp2_with fail
      have bm:Below C.heap.size C (C.alloc (.cells (flat3 (List.replicate M ((0:Int),(0:Int),(0:Int)))).toArray 74)):=(Below.refl C.heap.size C).alloc (Nat.le_refl _) _
      have km:Bk (C.alloc (.cells (flat3 (List.replicate M ((0:Int),(0:Int),(0:Int)))).toArray 74)) C.heap.size 74 (flat3 (List.replicate M ((0:Int),(0:Int),(0:Int)))):=Bk.new C _ _
      generalize C.alloc (.cells (flat3 (List.replicate M ((0:Int),(0:Int),(0:Int)))).toArray 74)=s at *
      have Y:=H.trans (bm.mono H.size)
      have jg:=bm.size
      refine Canon.tr_end (fun b9 d=>(Y.block b9 (by rcases d with d | d <;> omega)).trans (H.block b9 (by rcases d with d | d <;> omega)).symm) (Canon.tr_alt ?_ (Canon.tr_one ?_))
      ·simp only [zgZ,zgS]
       have c8:=bz.out.below keeps_int (Y.mono ch)
       obtain ⟨kn,kc⟩:=sl_cells1 c8
       have ak:s.ownsRow s.heap.size 3 1 (.slice none 0 0) 0 []:=World.ownsRow_nil _ _ _ _
       refine wpList_append_opt rfl (.const (.slice none 0 0)) (.tmp 135) 28 rfl s.heap.size Tryz.underlying28 info_int rfl (by decide) _ 0 [] rfl ak Ak K.length a0 (ivals K) rfl (by unfold ivals;simp) kn kc (ivals_ones K) (by omega) (by decide) (Nat.le_refl _) ?_
       intro v' f X b3 S _
       rw [Nat.zero_add,List.nil_append] at X
       obtain ⟨A2,E,rfl,bv⟩:=own_form X
       clear c8 kn kc ak b3
       have I:=Y.trans (S.mono Y.size)
       have ay:=S.size
       go_wp2_with fail
       refine Canon.tr_end (fun b9 d=>(I.block b9 (by rcases d with d | d <;> omega)).trans (H.block b9 (by rcases d with d | d <;> omega)).symm) (Canon.tr_seg ?_)
       simp only [zmC,zmN,zgZ,zgS]
       go_wp2_with fail
       refine Canon.tr_to (Canon.tr_one ?_)
       simp only [zgZ,zgS]
       go_wp2_with fail
       have G:Below f.heap.size f (f.alloc (.cells #[.int .i64 0,.slice none 0 0,.slice none 0 0,.slice none 0 0] 67)):=(Below.refl f.heap.size f).alloc (Nat.le_refl _) _
       have Z:Bk (f.alloc (.cells #[.int .i64 0,.slice none 0 0,.slice none 0 0,.slice none 0 0] 67)) f.heap.size 67 [.int .i64 0,.slice none 0 0,.slice none 0 0,.slice none 0 0]:=Bk.new f _ _
       generalize f.alloc (.cells #[.int .i64 0,.slice none 0 0,.slice none 0 0,.slice none 0 0] 67)=D at *
       have a5:=I.trans (G.mono I.size)
       have dl:=G.size
       refine Canon.tr_end (fun b9 d=>(a5.block b9 (by rcases d with d | d <;> omega)).trans (H.block b9 (by rcases d with d | d <;> omega)).symm) (Canon.tr_one ?_)
       simp only [zgZ,zgS]
       have U:Bk D C.heap.size _ _:=km.below (S.trans (G.mono ay)) km.lt
       have t:Bk D f.heap.size _ _:=Z
       have V:=own_base (own_below X G (Nat.le_refl _)) (show F.heap.size<=s.heap.size by omega)
       have s0:D.cell? ⟨f.heap.size,0,none⟩=some (.int .i64 0):=t.cell 0
       have s1:D.cell? ⟨f.heap.size,1,none⟩=some (.slice none 0 0):=t.cell 1
       have s2:D.cell? ⟨f.heap.size,2,none⟩=some (.slice none 0 0):=t.cell 2
       have s3:D.cell? ⟨f.heap.size,3,none⟩=some (.slice none 0 0):=t.cell 3
       have sf:=t.frozen
       have z:JoinLaid F K M (.slice O T.length W) (.pointer (some ⟨f.heap.size,0,none⟩)) ((((D.setCell ⟨f.heap.size,0,none⟩ (.int .i64 (M:Nat))).setCell ⟨f.heap.size,1,none⟩ (.slice O T.length W)).setCell ⟨f.heap.size,2,none⟩ (.slice (some ⟨C.heap.size,0,none⟩) M M)).setCell ⟨f.heap.size,3,none⟩ (.slice A2 K.length E)):=laid_put U t V a5 (by omega) (by omega)
       have a6:Below F.heap.size F ((((D.setCell ⟨f.heap.size,0,none⟩ (.int .i64 (M:Nat))).setCell ⟨f.heap.size,1,none⟩ (.slice O T.length W)).setCell ⟨f.heap.size,2,none⟩ (.slice (some ⟨C.heap.size,0,none⟩) M M)).setCell ⟨f.heap.size,3,none⟩ (.slice A2 K.length E)):=z.below
       obtain ⟨d9,d8,da,c3,c2,c4,Q⟩:=zz7 km Z X U t V z;clear km Z X U t V z
       go_wp2_with fail
       refine Canon.tr_end (fun b9 d=>(a6.block b9 (by rcases d with d | d <;> omega)).trans (H.block b9 (by rcases d with d | d <;> omega)).symm) (Canon.tr_fin (by rfl) (List.forall_mem_cons.2 ⟨.inl ⟨_,rfl,.inl rfl,by rw [v0];rfl⟩,List.forall_mem_cons.2 ⟨.inl ⟨_,rfl,.inl rfl,by rw [v0];rfl⟩,List.forall_mem_cons.2 ⟨.inl ⟨_,rfl,.inr rfl,by rw [v3];rfl⟩,fun _ h=>by cases h⟩⟩⟩) ?_)
       go_wp2_with fail
       go_meet
       exact Q.out
      ·simp only [zgZ,zgS]
       go_wp2_with fail
       have S:Below s.heap.size s (s.alloc (.cells #[.int .i64 0,.slice none 0 0,.slice none 0 0,.slice none 0 0] 67)):=(Below.refl s.heap.size s).alloc (Nat.le_refl _) _
       have Z:Bk (s.alloc (.cells #[.int .i64 0,.slice none 0 0,.slice none 0 0,.slice none 0 0] 67)) s.heap.size 67 [.int .i64 0,.slice none 0 0,.slice none 0 0,.slice none 0 0]:=Bk.new s _ _
       generalize s.alloc (.cells #[.int .i64 0,.slice none 0 0,.slice none 0 0,.slice none 0 0] 67)=f at *
       have I:=Y.trans (S.mono Y.size)
       have ay:=S.size
       refine Canon.tr_end (fun b9 d=>(I.block b9 (by rcases d with d | d <;> omega)).trans (H.block b9 (by rcases d with d | d <;> omega)).symm) (Canon.tr_one ?_)
       simp only [zgZ,zgS]
       have c9:=bz.out.below keeps_int (I.mono ch)
       obtain ⟨kn,kc⟩:=sl_cells1 c9
       have ak:f.ownsRow f.heap.size 3 1 (.slice none 0 0) 0 []:=World.ownsRow_nil _ _ _ _
       refine wpList_append_opt rfl (.const (.slice none 0 0)) (.tmp 135) 28 rfl f.heap.size Tryz.underlying28 info_int rfl (by decide) _ 0 [] rfl ak Ak K.length a0 (ivals K) rfl (by unfold ivals;simp) kn kc (ivals_ones K) (by omega) (by decide) (Nat.le_refl _) ?_
       intro v' D X b3 G _
       rw [Nat.zero_add,List.nil_append] at X
       obtain ⟨A2,E,rfl,bv⟩:=own_form X
       clear c9 kn kc ak b3
       have a5:=I.trans (G.mono I.size)
       have dl:=G.size
       go_wp2_with fail
       refine Canon.tr_end (fun b9 d=>(a5.block b9 (by rcases d with d | d <;> omega)).trans (H.block b9 (by rcases d with d | d <;> omega)).symm) (Canon.tr_seg ?_)
       simp only [zmC,zmN,zgZ,zgS]
       go_wp2_with fail
       refine Canon.tr_to (Canon.tr_one ?_)
       simp only [zgZ,zgS]
       have U:Bk D C.heap.size _ _:=km.below (S.trans (G.mono ay)) km.lt
       have t:Bk D s.heap.size _ _:=Z.below G Z.lt
       have V:=own_base (X) (show F.heap.size<=f.heap.size by omega)
       have s0:D.cell? ⟨s.heap.size,0,none⟩=some (.int .i64 0):=t.cell 0
       have s1:D.cell? ⟨s.heap.size,1,none⟩=some (.slice none 0 0):=t.cell 1
       have s2:D.cell? ⟨s.heap.size,2,none⟩=some (.slice none 0 0):=t.cell 2
       have s3:D.cell? ⟨s.heap.size,3,none⟩=some (.slice none 0 0):=t.cell 3
       have sf:=t.frozen
       have z:JoinLaid F K M (.slice O T.length W) (.pointer (some ⟨s.heap.size,0,none⟩)) ((((D.setCell ⟨s.heap.size,0,none⟩ (.int .i64 (M:Nat))).setCell ⟨s.heap.size,1,none⟩ (.slice O T.length W)).setCell ⟨s.heap.size,2,none⟩ (.slice (some ⟨C.heap.size,0,none⟩) M M)).setCell ⟨s.heap.size,3,none⟩ (.slice A2 K.length E)):=laid_put U t V a5 (by omega) (by omega)
       have a6:Below F.heap.size F ((((D.setCell ⟨s.heap.size,0,none⟩ (.int .i64 (M:Nat))).setCell ⟨s.heap.size,1,none⟩ (.slice O T.length W)).setCell ⟨s.heap.size,2,none⟩ (.slice (some ⟨C.heap.size,0,none⟩) M M)).setCell ⟨s.heap.size,3,none⟩ (.slice A2 K.length E)):=z.below
       obtain ⟨d9,d8,da,c3,c2,c4,Q⟩:=zz7 km Z X U t V z;clear km Z X U t V z
       go_wp2_with fail
       refine Canon.tr_end (fun b9 d=>(a6.block b9 (by rcases d with d | d <;> omega)).trans (H.block b9 (by rcases d with d | d <;> omega)).symm) (Canon.tr_fin (by rfl) (List.forall_mem_cons.2 ⟨.inl ⟨_,rfl,.inl rfl,by rw [v0];rfl⟩,List.forall_mem_cons.2 ⟨.inl ⟨_,rfl,.inl rfl,by rw [v0];rfl⟩,List.forall_mem_cons.2 ⟨.inl ⟨_,rfl,.inr rfl,by rw [v3];rfl⟩,fun _ h=>by cases h⟩⟩⟩) ?_)
       go_wp2_with fail
       go_meet
       exact Q.out
     ·simp only [zgZ,zgS]
      have fr:=bz.out.below keeps_int (H.mono ch)
      obtain ⟨kn,kc⟩:=sl_cells1 fr
      have ak:C.ownsRow C.heap.size 3 1 (.slice none 0 0) 0 []:=World.ownsRow_nil _ _ _ _
      refine wpList_append_opt rfl (.const (.slice none 0 0)) (.tmp 135) 28 rfl C.heap.size Tryz.underlying28 info_int rfl (by decide) _ 0 [] rfl ak Ak K.length a0 (ivals K) rfl (by unfold ivals;simp) kn kc (ivals_ones K) (by omega) (by decide) (Nat.le_refl _) ?_
      intro v' s X b3 bm _
      rw [Nat.zero_add,List.nil_append] at X
      obtain ⟨A2,E,rfl,bv⟩:=own_form X
      clear fr kn kc ak b3
      have Y:=H.trans (bm.mono H.size)
      have jg:=bm.size
      go_wp2_with fail
      refine Canon.tr_end (fun b9 d=>(Y.block b9 (by rcases d with d | d <;> omega)).trans (H.block b9 (by rcases d with d | d <;> omega)).symm) (Canon.tr_alt ?_ (Canon.tr_one ?_))
      ·simp only [zgZ,zgS]
       go_wp2_with fail
       have S:Below s.heap.size s (s.alloc (.cells (flat3 (List.replicate M ((0:Int),(0:Int),(0:Int)))).toArray 74)):=(Below.refl s.heap.size s).alloc (Nat.le_refl _) _
       have km:Bk (s.alloc (.cells (flat3 (List.replicate M ((0:Int),(0:Int),(0:Int)))).toArray 74)) s.heap.size 74 (flat3 (List.replicate M ((0:Int),(0:Int),(0:Int)))):=Bk.new s _ _
       generalize s.alloc (.cells (flat3 (List.replicate M ((0:Int),(0:Int),(0:Int)))).toArray 74)=f at *
       have I:=Y.trans (S.mono Y.size)
       have ay:=S.size
       refine Canon.tr_end (fun b9 d=>(I.block b9 (by rcases d with d | d <;> omega)).trans (H.block b9 (by rcases d with d | d <;> omega)).symm) (Canon.tr_seg ?_)
       simp only [zmC,zmN,zgZ,zgS]
       go_wp2_with fail
       refine Canon.tr_to (Canon.tr_one ?_)
       simp only [zgZ,zgS]
       go_wp2_with fail
       have G:Below f.heap.size f (f.alloc (.cells #[.int .i64 0,.slice none 0 0,.slice none 0 0,.slice none 0 0] 67)):=(Below.refl f.heap.size f).alloc (Nat.le_refl _) _
       have Z:Bk (f.alloc (.cells #[.int .i64 0,.slice none 0 0,.slice none 0 0,.slice none 0 0] 67)) f.heap.size 67 [.int .i64 0,.slice none 0 0,.slice none 0 0,.slice none 0 0]:=Bk.new f _ _
       generalize f.alloc (.cells #[.int .i64 0,.slice none 0 0,.slice none 0 0,.slice none 0 0] 67)=D at *
       have a5:=I.trans (G.mono I.size)
       have dl:=G.size
       refine Canon.tr_end (fun b9 d=>(a5.block b9 (by rcases d with d | d <;> omega)).trans (H.block b9 (by rcases d with d | d <;> omega)).symm) (Canon.tr_one ?_)
       simp only [zgZ,zgS]
       have U:Bk D s.heap.size _ _:=km.below G km.lt
       have t:Bk D f.heap.size _ _:=Z
       have V:=own_base (own_below X (S.trans (G.mono ay)) (Nat.le_refl _)) (show F.heap.size<=C.heap.size by omega)
       have s0:D.cell? ⟨f.heap.size,0,none⟩=some (.int .i64 0):=t.cell 0
       have s1:D.cell? ⟨f.heap.size,1,none⟩=some (.slice none 0 0):=t.cell 1
       have s2:D.cell? ⟨f.heap.size,2,none⟩=some (.slice none 0 0):=t.cell 2
       have s3:D.cell? ⟨f.heap.size,3,none⟩=some (.slice none 0 0):=t.cell 3
       have sf:=t.frozen
       have z:JoinLaid F K M (.slice O T.length W) (.pointer (some ⟨f.heap.size,0,none⟩)) ((((D.setCell ⟨f.heap.size,0,none⟩ (.int .i64 (M:Nat))).setCell ⟨f.heap.size,1,none⟩ (.slice O T.length W)).setCell ⟨f.heap.size,2,none⟩ (.slice (some ⟨s.heap.size,0,none⟩) M M)).setCell ⟨f.heap.size,3,none⟩ (.slice A2 K.length E)):=laid_put U t V a5 (by omega) (by omega)
       have a6:Below F.heap.size F ((((D.setCell ⟨f.heap.size,0,none⟩ (.int .i64 (M:Nat))).setCell ⟨f.heap.size,1,none⟩ (.slice O T.length W)).setCell ⟨f.heap.size,2,none⟩ (.slice (some ⟨s.heap.size,0,none⟩) M M)).setCell ⟨f.heap.size,3,none⟩ (.slice A2 K.length E)):=z.below
       obtain ⟨d9,d8,da,c3,c2,c4,Q⟩:=zz7 km Z X U t V z;clear km Z X U t V z
       go_wp2_with fail
       refine Canon.tr_end (fun b9 d=>(a6.block b9 (by rcases d with d | d <;> omega)).trans (H.block b9 (by rcases d with d | d <;> omega)).symm) (Canon.tr_fin (by rfl) (List.forall_mem_cons.2 ⟨.inl ⟨_,rfl,.inl rfl,by rw [v0];rfl⟩,List.forall_mem_cons.2 ⟨.inl ⟨_,rfl,.inl rfl,by rw [v0];rfl⟩,List.forall_mem_cons.2 ⟨.inl ⟨_,rfl,.inr rfl,by rw [v3];rfl⟩,fun _ h=>by cases h⟩⟩⟩) ?_)
       go_wp2_with fail
       go_meet
       exact Q.out
      ·simp only [zgZ,zgS]
       go_wp2_with fail
       have S:Below s.heap.size s (s.alloc (.cells #[.int .i64 0,.slice none 0 0,.slice none 0 0,.slice none 0 0] 67)):=(Below.refl s.heap.size s).alloc (Nat.le_refl _) _
       have Z:Bk (s.alloc (.cells #[.int .i64 0,.slice none 0 0,.slice none 0 0,.slice none 0 0] 67)) s.heap.size 67 [.int .i64 0,.slice none 0 0,.slice none 0 0,.slice none 0 0]:=Bk.new s _ _
       generalize s.alloc (.cells #[.int .i64 0,.slice none 0 0,.slice none 0 0,.slice none 0 0] 67)=f at *
       have I:=Y.trans (S.mono Y.size)
       have ay:=S.size
       refine Canon.tr_end (fun b9 d=>(I.block b9 (by rcases d with d | d <;> omega)).trans (H.block b9 (by rcases d with d | d <;> omega)).symm) (Canon.tr_one ?_)
       simp only [zgZ,zgS]
       go_wp2_with fail
       have G:Below f.heap.size f (f.alloc (.cells (flat3 (List.replicate M ((0:Int),(0:Int),(0:Int)))).toArray 74)):=(Below.refl f.heap.size f).alloc (Nat.le_refl _) _
       have km:Bk (f.alloc (.cells (flat3 (List.replicate M ((0:Int),(0:Int),(0:Int)))).toArray 74)) f.heap.size 74 (flat3 (List.replicate M ((0:Int),(0:Int),(0:Int)))):=Bk.new f _ _
       generalize f.alloc (.cells (flat3 (List.replicate M ((0:Int),(0:Int),(0:Int)))).toArray 74)=D at *
       have a5:=I.trans (G.mono I.size)
       have dl:=G.size
       skip
       refine Canon.tr_end (fun b9 d=>(a5.block b9 (by rcases d with d | d <;> omega)).trans (H.block b9 (by rcases d with d | d <;> omega)).symm) (Canon.tr_seg ?_)
       simp only [zmC,zmN,zgZ,zgS]
       go_wp2_with fail
       refine Canon.tr_to (Canon.tr_one ?_)
       simp only [zgZ,zgS]
       have U:Bk D f.heap.size _ _:=km
       have t:Bk D s.heap.size _ _:=Z.below G Z.lt
       have V:=own_base (own_below X (S.trans (G.mono ay)) (Nat.le_refl _)) (show F.heap.size<=C.heap.size by omega)
       have s0:D.cell? ⟨s.heap.size,0,none⟩=some (.int .i64 0):=t.cell 0
       have s1:D.cell? ⟨s.heap.size,1,none⟩=some (.slice none 0 0):=t.cell 1
       have s2:D.cell? ⟨s.heap.size,2,none⟩=some (.slice none 0 0):=t.cell 2
       have s3:D.cell? ⟨s.heap.size,3,none⟩=some (.slice none 0 0):=t.cell 3
       have sf:=t.frozen
       have z:JoinLaid F K M (.slice O T.length W) (.pointer (some ⟨s.heap.size,0,none⟩)) ((((D.setCell ⟨s.heap.size,0,none⟩ (.int .i64 (M:Nat))).setCell ⟨s.heap.size,1,none⟩ (.slice O T.length W)).setCell ⟨s.heap.size,2,none⟩ (.slice (some ⟨f.heap.size,0,none⟩) M M)).setCell ⟨s.heap.size,3,none⟩ (.slice A2 K.length E)):=laid_put U t V a5 (by omega) (by omega)
       have a6:Below F.heap.size F ((((D.setCell ⟨s.heap.size,0,none⟩ (.int .i64 (M:Nat))).setCell ⟨s.heap.size,1,none⟩ (.slice O T.length W)).setCell ⟨s.heap.size,2,none⟩ (.slice (some ⟨f.heap.size,0,none⟩) M M)).setCell ⟨s.heap.size,3,none⟩ (.slice A2 K.length E)):=z.below
       obtain ⟨d9,d8,da,c3,c2,c4,Q⟩:=zz7 km Z X U t V z;clear km Z X U t V z
       go_wp2_with fail
       refine Canon.tr_end (fun b9 d=>(a6.block b9 (by rcases d with d | d <;> omega)).trans (H.block b9 (by rcases d with d | d <;> omega)).symm) (Canon.tr_fin (by rfl) (List.forall_mem_cons.2 ⟨.inl ⟨_,rfl,.inl rfl,by rw [v0];rfl⟩,List.forall_mem_cons.2 ⟨.inl ⟨_,rfl,.inl rfl,by rw [v0];rfl⟩,List.forall_mem_cons.2 ⟨.inl ⟨_,rfl,.inr rfl,by rw [v3];rfl⟩,fun _ h=>by cases h⟩⟩⟩) ?_)
       go_wp2_with fail
       go_meet
       exact Q.out
     ·simp only [zgZ,zgS]
      go_wp2_with fail
      have bm:Below C.heap.size C (C.alloc (.cells #[.int .i64 0,.slice none 0 0,.slice none 0 0,.slice none 0 0] 67)):=(Below.refl C.heap.size C).alloc (Nat.le_refl _) _
      have Z:Bk (C.alloc (.cells #[.int .i64 0,.slice none 0 0,.slice none 0 0,.slice none 0 0] 67)) C.heap.size 67 [.int .i64 0,.slice none 0 0,.slice none 0 0,.slice none 0 0]:=Bk.new C _ _
      generalize C.alloc (.cells #[.int .i64 0,.slice none 0 0,.slice none 0 0,.slice none 0 0] 67)=s at *
      have Y:=H.trans (bm.mono H.size)
      have jg:=bm.size
      refine Canon.tr_end (fun b9 d=>(Y.block b9 (by rcases d with d | d <;> omega)).trans (H.block b9 (by rcases d with d | d <;> omega)).symm) (Canon.tr_alt ?_ (Canon.tr_one ?_))
      ·simp only [zgZ,zgS]
       go_wp2_with fail
       have S:Below s.heap.size s (s.alloc (.cells (flat3 (List.replicate M ((0:Int),(0:Int),(0:Int)))).toArray 74)):=(Below.refl s.heap.size s).alloc (Nat.le_refl _) _
       have km:Bk (s.alloc (.cells (flat3 (List.replicate M ((0:Int),(0:Int),(0:Int)))).toArray 74)) s.heap.size 74 (flat3 (List.replicate M ((0:Int),(0:Int),(0:Int)))):=Bk.new s _ _
       generalize s.alloc (.cells (flat3 (List.replicate M ((0:Int),(0:Int),(0:Int)))).toArray 74)=f at *
       have I:=Y.trans (S.mono Y.size)
       have ay:=S.size
       refine Canon.tr_end (fun b9 d=>(I.block b9 (by rcases d with d | d <;> omega)).trans (H.block b9 (by rcases d with d | d <;> omega)).symm) (Canon.tr_one ?_)
       simp only [zgZ,zgS]
       have c9:=bz.out.below keeps_int (I.mono ch)
       obtain ⟨kn,kc⟩:=sl_cells1 c9
       have ak:f.ownsRow f.heap.size 3 1 (.slice none 0 0) 0 []:=World.ownsRow_nil _ _ _ _
       refine wpList_append_opt rfl (.const (.slice none 0 0)) (.tmp 135) 28 rfl f.heap.size Tryz.underlying28 info_int rfl (by decide) _ 0 [] rfl ak Ak K.length a0 (ivals K) rfl (by unfold ivals;simp) kn kc (ivals_ones K) (by omega) (by decide) (Nat.le_refl _) ?_
       intro v' D X b3 G _
       rw [Nat.zero_add,List.nil_append] at X
       obtain ⟨A2,E,rfl,bv⟩:=own_form X
       clear c9 kn kc ak b3
       have a5:=I.trans (G.mono I.size)
       have dl:=G.size
       go_wp2_with fail
       refine Canon.tr_end (fun b9 d=>(a5.block b9 (by rcases d with d | d <;> omega)).trans (H.block b9 (by rcases d with d | d <;> omega)).symm) (Canon.tr_seg ?_)
       simp only [zmC,zmN,zgZ,zgS]
       go_wp2_with fail
       refine Canon.tr_to (Canon.tr_one ?_)
       simp only [zgZ,zgS]
       have U:Bk D s.heap.size _ _:=km.below G km.lt
       have t:Bk D C.heap.size _ _:=Z.below (S.trans (G.mono ay)) Z.lt
       have V:=own_base (X) (show F.heap.size<=f.heap.size by omega)
       have s0:D.cell? ⟨C.heap.size,0,none⟩=some (.int .i64 0):=t.cell 0
       have s1:D.cell? ⟨C.heap.size,1,none⟩=some (.slice none 0 0):=t.cell 1
       have s2:D.cell? ⟨C.heap.size,2,none⟩=some (.slice none 0 0):=t.cell 2
       have s3:D.cell? ⟨C.heap.size,3,none⟩=some (.slice none 0 0):=t.cell 3
       have sf:=t.frozen
       have z:JoinLaid F K M (.slice O T.length W) (.pointer (some ⟨C.heap.size,0,none⟩)) ((((D.setCell ⟨C.heap.size,0,none⟩ (.int .i64 (M:Nat))).setCell ⟨C.heap.size,1,none⟩ (.slice O T.length W)).setCell ⟨C.heap.size,2,none⟩ (.slice (some ⟨s.heap.size,0,none⟩) M M)).setCell ⟨C.heap.size,3,none⟩ (.slice A2 K.length E)):=laid_put U t V a5 (by omega) (by omega)
       have a6:Below F.heap.size F ((((D.setCell ⟨C.heap.size,0,none⟩ (.int .i64 (M:Nat))).setCell ⟨C.heap.size,1,none⟩ (.slice O T.length W)).setCell ⟨C.heap.size,2,none⟩ (.slice (some ⟨s.heap.size,0,none⟩) M M)).setCell ⟨C.heap.size,3,none⟩ (.slice A2 K.length E)):=z.below
       obtain ⟨d9,d8,da,c3,c2,c4,Q⟩:=zz7 km Z X U t V z;clear km Z X U t V z
       go_wp2_with fail
       refine Canon.tr_end (fun b9 d=>(a6.block b9 (by rcases d with d | d <;> omega)).trans (H.block b9 (by rcases d with d | d <;> omega)).symm) (Canon.tr_fin (by rfl) (List.forall_mem_cons.2 ⟨.inl ⟨_,rfl,.inl rfl,by rw [v0];rfl⟩,List.forall_mem_cons.2 ⟨.inl ⟨_,rfl,.inl rfl,by rw [v0];rfl⟩,List.forall_mem_cons.2 ⟨.inl ⟨_,rfl,.inr rfl,by rw [v3];rfl⟩,fun _ h=>by cases h⟩⟩⟩) ?_)
       go_wp2_with fail
       go_meet
       exact Q.out
      ·simp only [zgZ,zgS]
       have c8:=bz.out.below keeps_int (Y.mono ch)
       obtain ⟨kn,kc⟩:=sl_cells1 c8
       have ak:s.ownsRow s.heap.size 3 1 (.slice none 0 0) 0 []:=World.ownsRow_nil _ _ _ _
       refine wpList_append_opt rfl (.const (.slice none 0 0)) (.tmp 135) 28 rfl s.heap.size Tryz.underlying28 info_int rfl (by decide) _ 0 [] rfl ak Ak K.length a0 (ivals K) rfl (by unfold ivals;simp) kn kc (ivals_ones K) (by omega) (by decide) (Nat.le_refl _) ?_
       intro v' f X b3 S _
       rw [Nat.zero_add,List.nil_append] at X
       obtain ⟨A2,E,rfl,bv⟩:=own_form X
       clear c8 kn kc ak b3
       have I:=Y.trans (S.mono Y.size)
       have ay:=S.size
       go_wp2_with fail
       refine Canon.tr_end (fun b9 d=>(I.block b9 (by rcases d with d | d <;> omega)).trans (H.block b9 (by rcases d with d | d <;> omega)).symm) (Canon.tr_one ?_)
       simp only [zgZ,zgS]
       go_wp2_with fail
       have G:Below f.heap.size f (f.alloc (.cells (flat3 (List.replicate M ((0:Int),(0:Int),(0:Int)))).toArray 74)):=(Below.refl f.heap.size f).alloc (Nat.le_refl _) _
       have km:Bk (f.alloc (.cells (flat3 (List.replicate M ((0:Int),(0:Int),(0:Int)))).toArray 74)) f.heap.size 74 (flat3 (List.replicate M ((0:Int),(0:Int),(0:Int)))):=Bk.new f _ _
       generalize f.alloc (.cells (flat3 (List.replicate M ((0:Int),(0:Int),(0:Int)))).toArray 74)=D at *
       have a5:=I.trans (G.mono I.size)
       have dl:=G.size
       skip
       refine Canon.tr_end (fun b9 d=>(a5.block b9 (by rcases d with d | d <;> omega)).trans (H.block b9 (by rcases d with d | d <;> omega)).symm) (Canon.tr_seg ?_)
       simp only [zmC,zmN,zgZ,zgS]
       go_wp2_with fail
       refine Canon.tr_to (Canon.tr_one ?_)
       simp only [zgZ,zgS]
       have U:Bk D f.heap.size _ _:=km
       have t:Bk D C.heap.size _ _:=Z.below (S.trans (G.mono ay)) Z.lt
       have V:=own_base (own_below X G (Nat.le_refl _)) (show F.heap.size<=s.heap.size by omega)
       have s0:D.cell? ⟨C.heap.size,0,none⟩=some (.int .i64 0):=t.cell 0
       have s1:D.cell? ⟨C.heap.size,1,none⟩=some (.slice none 0 0):=t.cell 1
       have s2:D.cell? ⟨C.heap.size,2,none⟩=some (.slice none 0 0):=t.cell 2
       have s3:D.cell? ⟨C.heap.size,3,none⟩=some (.slice none 0 0):=t.cell 3
       have sf:=t.frozen
       have z:JoinLaid F K M (.slice O T.length W) (.pointer (some ⟨C.heap.size,0,none⟩)) ((((D.setCell ⟨C.heap.size,0,none⟩ (.int .i64 (M:Nat))).setCell ⟨C.heap.size,1,none⟩ (.slice O T.length W)).setCell ⟨C.heap.size,2,none⟩ (.slice (some ⟨f.heap.size,0,none⟩) M M)).setCell ⟨C.heap.size,3,none⟩ (.slice A2 K.length E)):=laid_put U t V a5 (by omega) (by omega)
       have a6:Below F.heap.size F ((((D.setCell ⟨C.heap.size,0,none⟩ (.int .i64 (M:Nat))).setCell ⟨C.heap.size,1,none⟩ (.slice O T.length W)).setCell ⟨C.heap.size,2,none⟩ (.slice (some ⟨f.heap.size,0,none⟩) M M)).setCell ⟨C.heap.size,3,none⟩ (.slice A2 K.length E)):=z.below
       obtain ⟨d9,d8,da,c3,c2,c4,Q⟩:=zz7 km Z X U t V z;clear km Z X U t V z
       go_wp2_with fail
       refine Canon.tr_end (fun b9 d=>(a6.block b9 (by rcases d with d | d <;> omega)).trans (H.block b9 (by rcases d with d | d <;> omega)).symm) (Canon.tr_fin (by rfl) (List.forall_mem_cons.2 ⟨.inl ⟨_,rfl,.inl rfl,by rw [v0];rfl⟩,List.forall_mem_cons.2 ⟨.inl ⟨_,rfl,.inl rfl,by rw [v0];rfl⟩,List.forall_mem_cons.2 ⟨.inl ⟨_,rfl,.inr rfl,by rw [v3];rfl⟩,fun _ h=>by cases h⟩⟩⟩) ?_)
       go_wp2_with fail
       go_meet
       exact Q.out
    case rest =>
     obtain ⟨bn,gm,A2,E,rfl,nl,g8,fx,fz,j2,kf⟩:=hcut
     have il:Sl 1 RInt F F.heap.size (.slice Ao no co) (sewOf (labP J) N.toNat):=by
      obtain ⟨_,_,_,d⟩:=cl.out rfl F fun b _ h2=>dx.block b h2
      rw [dt.out] at d
      exact d
     have im:no=N.toNat:=by
      rw [<- dt.out]
      unfold sewOf
      simp
     have fs:P.length=N.toNat:=by
      have d:=bu.out
      unfold mayB at d
      rw [Bool.and_eq_true] at d
      have:=(of_decide_eq_true d.1).1
      omega
     have j7:∀ k (hk:k<(sewOf (labP J) N.toNat).length),∃ m:Nat,(sewOf (labP J) N.toNat)[k]=(m:Int)/\m<M:=fun k hk=>by
      have d:=sewOf_rng ac.out (J:=J) (by rw [<- ib.out];exact fun e he=>of_decide_eq_true (d6.out.1 e he)) k hk
      rw [ic.out] at d
      exact d
     have ga:=jpt_len (sewOf (labP J) N.toNat) P M
     have gh:=dt.out
     have g2:Bk wc gm 74 (flat3 (jpt (sewOf (labP J) N.toNat) P M 0)):=fz
     have eu:=fun k=>(show jpt (sewOf (labP J) N.toNat) P M (k+1)=(jpt (sewOf (labP J) N.toNat) P M k).set ((sewOf (labP J) N.toNat).getD ((sewOf (labP J) N.toNat).length - 1 - k) 0).toNat (P.getD ((sewOf (labP J) N.toNat).length - 1 - k) (0,0,0)) from rfl)
     generalize iq:sewOf (labP J) N.toNat=SO at *
     have oo:w.heap.size<F.heap.size:=by omega
     have nq:no<=5000:=by omega
     obtain ⟨hu,my,js,jh,jv,cm,ee,hw,fi,jj,ht,f9⟩:=zz12 fx fz j2 il j7 ga gh g2 eu iq fs im;clear fx fz j2 il j7 ga gh g2 eu iq fs im
     go_wp2_with fail
     go_loopw [23] (fun iv wr=>∃ k:Nat,k<=no/\iv=.int .i64 ((no:Int) - 1 - (k:Int))/\Bk wr bn 67 [.int .i64 (M:Nat),.slice O T.length W,.slice (some ⟨gm,0,none⟩) M M,.slice A2 K.length E]/\Bk wr gm 74 (flat3 (jpt SO P M k))/\wr.ownsRow F.heap.size 3 1 (.slice A2 K.length E) K.length (ivals K)/\Below F.heap.size F wr) (fun iv _=>(intOf iv+1).toNat)
     case atStart=>exact ⟨0,by omega,by simp,hu.out,hw.out,js.out,kf⟩
     case round =>
      obtain ⟨k,hk,rfl,ar,br,cb,au⟩:=hrel
      obtain ⟨wx,lo⟩:∃ wx,wx=wr:=⟨_,rfl⟩
      subst lo
      have p8:=au.size
      by_cases j3:k<no
      ·obtain ⟨v,hv⟩:∃ v:Nat,v=no - 1 - k:=⟨_,rfl⟩
       have gv:(no:Int) - 1 - (k:Int)=(v:Int):=by omega
       rw [gv]
       have gw:v<SO.length:=by rw [ee.out];omega
       have j9:v<P.length:=by rw [ht.out,<- f9.out];omega
       obtain ⟨mm,er,lg⟩:=jv.out v gw
       have gs:=fi.out k
       rw [ee.out,<- hv,List.getD_eq_getElem?_getD,List.getElem?_eq_getElem gw,List.getD_eq_getElem?_getD,List.getElem?_eq_getElem j9,Option.getD_some,Option.getD_some,er,Int.toNat_natCast] at gs
       obtain ⟨b,o,fq,hb,o1⟩:=(jh.out.below keeps_int au).int_at gw
       subst fq
       rw [er] at o1
       obtain ⟨bp,op,c7,nj,p1,p2,p3⟩:=(ji.out.below keeps_tri (au.mono ch)).tri_at j9
       subst c7
       generalize P[v]=pt at *
       obtain ⟨x0,x1,x2⟩:=pt
       simp only [] at p1 p2 p3
       have q2:wx.cell? ⟨bn,2,none⟩=some (.slice (some ⟨gm,0,none⟩) M M):=ar.cell 2
       have p9:wx.drew.cell? ⟨bn,2,none⟩=some (.slice (some ⟨gm,0,none⟩) M M):=q2
       have f2:=(au.cell (p:=⟨w.heap.size,2,none⟩) (by show w.heap.size<_;omega)).trans v2
       have oc:wx.drew.cell? ⟨w.heap.size,2,none⟩=some (.slice (some ⟨bp,op,none⟩) P.length aw):=f2
       have bc:=cm.out k
       have de:∀ m,m<3 * M->wx.cell? ⟨gm,m,none⟩=some (.int .i64 (Mesh.vt (jpt SO P M k) m)):=fun m hm=>by
        rw [br.cell m,flat3_some (by rw [bc];exact hm)]
       have o9:=de (mm * 3) (by omega)
       have oa:=de (mm * 3+1) (by omega)
       have ob:=de (mm * 3+2) (by omega)
       have gf:=br.frozen
       have p0:v<no:=by omega
       obtain ⟨jy,dp,dq,ed,mz,n3,fe,l0,n6⟩:=zz9 gs ar br cb de er bc hv gv;clear gs ar br cb de er bc hv gv
       go_wp2_with fail
       refine Canon.wp_region_text mixed (by kernel_rfl) ?_
       go_wp2_with fail
       refine Canon.chk (by rfl) ?_
       go_wp2_with fail
       all_goals first | (exfalso;omega) | skip
       have dg:gm≠bn:=bk_apart dq.out dp.out
       have k0:=dq.out
       have k1:=k0.set (mm * 3) (.int .i64 x0)
       have k2:=k1.set (mm * 3+1) (.int .i64 x1)
       have k3:=k2.set (mm * 3+2) (.int .i64 x2)
       have kk:=own_point (i:=mm * 3+2) (u:=.int .i64 x2) (own_point (i:=mm * 3+1) (u:=.int .i64 x1) (own_point (i:=mm * 3) (u:=.int .i64 x0) ed.out k0) k1) k2
       have Z:=((dp.out.far (p:=⟨gm,mm * 3,none⟩) (fun h=>dg h.symm) (.int .i64 x0)).far (p:=⟨gm,mm * 3+1,none⟩) (fun h=>dg h.symm) (.int .i64 x1)).far (p:=⟨gm,mm * 3+2,none⟩) (fun h=>dg h.symm) (.int .i64 x2)
       have kw:=((au.setCell (p:=⟨gm,mm * 3,none⟩) g8 (.int .i64 x0)).setCell (p:=⟨gm,mm * 3+1,none⟩) g8 (.int .i64 x1)).setCell (p:=⟨gm,mm * 3+2,none⟩) g8 (.int .i64 x2)
       rw [flat3_put (x0,x1,x2) (jpt SO P M k) mm (by rw [fe.out];exact lg),<- jy.out] at k3
       have oz:=l0.out
       exact ⟨⟨k+1,by omega,congrArg (Value.int .i64) (by omega),by first | exact Z | exact Z.drew,by first | exact k3 | exact k3.drew,by first | exact kk | exact kk.drew,by first | exact kw | exact kw.drew⟩,by first | (simp [intOf];done) | (simp [intOf];omega)⟩
      ·obtain rfl:k=no:=by omega
       rw [show (k:Int) - 1 - (k:Int) = -1 by omega]
       have ih:=c6.trans (au.mono c6.size)
       have ax:=bi.out.below ih (by omega)
       have r0:wx.cell? ⟨w.heap.size+1,0,none⟩=some (.int .i64 0):=ax.cell 0
       have r1:wx.cell? ⟨w.heap.size+1,1,none⟩=some (.slice none 0 0):=ax.cell 1
       have r2:wx.cell? ⟨w.heap.size+1,2,none⟩=some (.slice none 0 0):=ax.cell 2
       have r3:wx.cell? ⟨w.heap.size+1,3,none⟩=some (.slice none 0 0):=ax.cell 3
       have rf:=ax.frozen
       have q0:wx.cell? ⟨bn,0,none⟩=some (.int .i64 (M:Nat)):=ar.cell 0
       have q1:wx.cell? ⟨bn,1,none⟩=some (.slice O T.length W):=ar.cell 1
       have q2:wx.cell? ⟨bn,2,none⟩=some (.slice (some ⟨gm,0,none⟩) M M):=ar.cell 2
       have q3:wx.cell? ⟨bn,3,none⟩=some (.slice A2 K.length E):=ar.cell 3
       have j1:=(((ax.set 0 (.int .i64 (M:Nat))).set 1 (.slice O T.length W)).set 2 (.slice (some ⟨gm,0,none⟩) M M)).set 3 (.slice A2 K.length E)
       have iu:=((((dd.trans (ih.mono (by omega))).setCell (p:=⟨w.heap.size+1,0,none⟩) (by show w.heap.size<=w.heap.size+1;omega) (.int .i64 (M:Nat))).setCell (p:=⟨w.heap.size+1,1,none⟩) (by show w.heap.size<=w.heap.size+1;omega) (.slice O T.length W)).setCell (p:=⟨w.heap.size+1,2,none⟩) (by show w.heap.size<=w.heap.size+1;omega) (.slice (some ⟨gm,0,none⟩) M M)).setCell (p:=⟨w.heap.size+1,3,none⟩) (by show w.heap.size<=w.heap.size+1;omega) (.slice A2 K.length E)
       have gu:wx.heap.size<=((((wx.setCell ⟨w.heap.size+1,0,none⟩ (.int .i64 (M:Nat))).setCell ⟨w.heap.size+1,1,none⟩ (.slice O T.length W)).setCell ⟨w.heap.size+1,2,none⟩ (.slice (some ⟨gm,0,none⟩) M M)).setCell ⟨w.heap.size+1,3,none⟩ (.slice A2 K.length E)).heap.size:=by simp
       have cu:∀ b,w.heap.size+2<=b->((((wx.setCell ⟨w.heap.size+1,0,none⟩ (.int .i64 (M:Nat))).setCell ⟨w.heap.size+1,1,none⟩ (.slice O T.length W)).setCell ⟨w.heap.size+1,2,none⟩ (.slice (some ⟨gm,0,none⟩) M M)).setCell ⟨w.heap.size+1,3,none⟩ (.slice A2 K.length E)).heap[b]? = wx.heap[b]?:=fun b h1 =>
        (Below.heap_setCell _ ⟨w.heap.size+1,3,none⟩ _ b (by show b≠w.heap.size+1;omega)).trans ((Below.heap_setCell _ ⟨w.heap.size+1,2,none⟩ _ b (by show b≠w.heap.size+1;omega)).trans ((Below.heap_setCell _ ⟨w.heap.size+1,1,none⟩ _ b (by show b≠w.heap.size+1;omega)).trans (Below.heap_setCell _ ⟨w.heap.size+1,0,none⟩ _ b (by show b≠w.heap.size+1;omega))))
       generalize lm:(((wx.setCell ⟨w.heap.size+1,0,none⟩ (.int .i64 (M:Nat))).setCell ⟨w.heap.size+1,1,none⟩ (.slice O T.length W)).setCell ⟨w.heap.size+1,2,none⟩ (.slice (some ⟨gm,0,none⟩) M M)).setCell ⟨w.heap.size+1,3,none⟩ (.slice A2 K.length E)=wF at *
       have g7:∀ wz:World,(∀ b,w.heap.size<=b->b<wF.heap.size->wz.heap[b]? = wF.heap[b]?)->JoinMade wz N T P K (i:Int) (j:Int) turn (.agg #[.int .i64 (M:Nat),.slice O T.length W,.slice (some ⟨gm,0,none⟩) M M,.slice A2 K.length E]):=fun wz d=>by
        have h8:∀ b,w0.heap.size<=b->b<wx.heap.size->wz.heap[b]? = wx.heap[b]?:=fun b k1 k2=>(d b (by omega) (by omega)).trans (cu b (by omega))
        obtain ⟨xs,hx,g1,_⟩:=cl.out rfl wz fun b k1 k2=>(h8 b (by omega) (by omega)).trans ((au.block b (by omega)).trans (dx.block b k2))
        injection hx with hx
        have hx:=congrArg Array.toList hx
        simp only [List.cons.injEq] at hx
        obtain ⟨_,ck,_⟩:=hx
        subst ck
        have ld:=br.keep (h8 gm (by omega) br.lt)
        have hS:=Sl.of_block (sz:=3) (R:=RTri) (l:=jpt SO P M k) (cap:=M) ld (by rw [cm.out];exact Nat.le_refl _) (fun i a hi=>⟨by rw [flat3_len];have:=(List.getElem?_eq_some_iff.1 hi).1;omega,flat3_at _ i a hi⟩)
        rw [cm.out] at hS
        have l8:=own_moved cb (Nat.le_refl _) fun b k1 k2=>h8 b (by omega) k2
        unfold JoinMade
        rw [Int.toNat_natCast,Int.toNat_natCast,dn.out,jo.out,jp.out,ib.out,ic.out,jj.out,<- f9.out]
        refine ⟨_,_,_,rfl,g1,hS,Sl.of_own l8 fun i a hi=>?_⟩
        unfold RInt
        have j4:=(List.getElem?_eq_some_iff.1 hi).1
        unfold ivals
        rw [Nat.mul_one,List.drop_eq_getElem_cons (by simpa using j4)]
        simp only [List.take_succ_cons,List.take_zero,List.getElem_map]
        rw [List.getElem?_eq_getElem j4] at hi
        rw [Option.some.inj hi]
       obtain ⟨dp,dq,ed,mk,jr,jk,mn,kz,i3⟩:=zz9 ar br cb ax j1 iu gu cu g7;clear ar br cb ax j1 iu gu cu g7
       go_wp2_with fail
       all_goals first | (exfalso;omega) | skip
       try rw [lm]
       refine ret_ct rfl rfl jr.out Tryz.underlying67 rfl (by kernel_rfl) rfl ?_
       exact ⟨⟨_,0,rfl,i0.out,fun d=>absurd rfl d,fun _=>i3.out⟩,jk.out⟩
end Go.Proofs.YtpbdcppaiafbgaaGreat
