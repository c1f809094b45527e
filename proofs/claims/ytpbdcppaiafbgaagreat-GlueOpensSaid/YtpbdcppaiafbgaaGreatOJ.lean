/- Walks: two border loops joined (glue's Join): a loop's places, the pairs. -/
import Derived.Test.YtpbdcppaiafbgaaGreatOG
import Derived.Test.YtpbdcppaiafbgaaGreatOA
set_option maxRecDepth 100000
set_option maxHeartbeats 8000000
namespace Go.Mesh
theorem tmod_emod (i n:Int):(i.tmod n) % n=i % n:=by
 have h:=Int.tmod_def i n
 have a:i=i.tmod n+n * i.tdiv n:=by omega
 have b:i % n=(i.tmod n+n * i.tdiv n) % n:=by rw [<- a]
 rw [b,Int.add_mul_emod_self_left]
theorem tmod_near (i:Int) {n:Int} (hn:0<n):-n<i.tmod n/\i.tmod n<n:=by
 have a:=Int.lt_tmod_of_pos i hn
 have b:=Int.tmod_lt_of_pos i hn
 exact ⟨a,b⟩
theorem tmod_round (i:Int) {n:Int} (hn:0<n):(i.tmod n+n).tmod n=i % n/\(i.tmod n+n) % n=i % n:=by
 have h:=tmod_near i hn
 have a:(i.tmod n+n) % n=i % n:=by rw [Int.add_emod_right,tmod_emod i n]
 exact ⟨by rw [Int.tmod_eq_emod_of_nonneg (by omega)];exact a,a⟩
def jpt (O:List Int) (P:List T3) (n:Nat):Nat->List T3
 | 0=>List.replicate n (0,0,0)
 | r+1=>(jpt O P n r).set (O.getD (O.length - 1 - r) 0).toNat (P.getD (O.length - 1 - r) (0,0,0))
theorem jpt_len (O:List Int) (P:List T3) (n:Nat):∀ r,(jpt O P n r).length=n
 | 0=>by unfold jpt;simp
 | r+1=>by unfold jpt;rw [List.length_set,jpt_len O P n r]
end Go.Mesh
namespace Go.Proofs.YtpbdcppaiafbgaaGreat
open Go Go.RowKit Go.Words Go.Mesh
theorem jat_calls {w:World} {gn g cap n:Nat} {l:List Nat} (hbx:Bk w gn 3 [.int .i64 (n:Int)]) (hn:l.length=n) (hcells:∀ k (hk:k<l.length),w.cell? ⟨g,k,none⟩=some (.int .i64 (l[k]:Int))) (hpos:0<n) (hll:n<=1000000) (i:Int) :
  Calls Tryz.prog 90 #[.slice (some ⟨g,0,none⟩) l.length cap,.int .i64 i,.pointer (some ⟨gn,0,none⟩)] w fun e w'=>e=.returned (.int .i64 (jAt l i))/\Below w.heap.size w w':=by
 have b:(0:Int)<(n:Int):=by omega
 obtain ⟨v,y⟩:=tmod_near i b
 obtain ⟨j,o⟩:=tmod_round i b
 have d:=Int.emod_nonneg i (show (n:Int)≠0 by omega)
 have f:=Int.emod_lt_of_pos i b
 obtain ⟨r,c⟩:∃ r:Nat,i % (n:Int)=(r:Int):=⟨(i % (n:Int)).toNat,by omega⟩
 rw [c] at j o d f
 have a:r<l.length:=by omega
 have h:jAt l i=(l[r]:Int):=by
  unfold jAt
  rw [hn,c,Int.toNat_natCast,List.getD_eq_getElem?_getD,zG a];rfl
 have t:=hcells r a
 rw [h]
 generalize l[r]=x at *
 obtain ⟨m,u⟩:∃ m,i.tmod (n:Int)=m:=⟨_,rfl⟩
 rw [u] at v y j o
 have C:r<n:=by omega
 have q:w.cell? ⟨gn,0,none⟩=some (.int .i64 (n:Int)):=hbx.cell 0
 have A:w.drew.cell? ⟨gn,0,none⟩=some (.int .i64 (n:Int)):=q
 have B:w.drew.cell? ⟨g,r,none⟩=some (.int .i64 (x:Int)):=t
 have s:=(Below.refl w.heap.size w).drew
 clear h hcells c d f
 obtain ⟨p,z⟩:=zz2 hbx hn;clear hbx hn
 go_enter Tryz.func90,Tryz.ntmps90
 go_wp2_with fail
 refine Canon.wp_region_text mixed (by kernel_rfl) ?_
 go_wp2_with fail
 refine Canon.chk (by rfl) ?_
 go_wp2_with fail
 go_ret
 exact ⟨rfl,s⟩
theorem ret_ct {P:Program} {fn:Func} {p q:Tmp} {ty:TypeId} (h:fn.results=#[.cell q ty,.tmp p]) {R:Ending->World->Prop} {a:Act} {w:World} {g:Nat} {t:TypeId} {cs:List Value} {d:TypeDesc}
  (hp:a.tmps.getD q undef=.pointer (some ⟨g,0,none⟩)) (hg:Bk w g t cs) (hu:P.underlying ty=some d)
  (hd:(match d with | .struct _ | .array _ _=>true | _=>false)=true) (hi:(P.info? ty).map (·.size)=some cs.length) (hde:a.defers=[])
  (hR:R (.returned (.tuple #[.agg cs.toArray,a.tmps.getD p undef])) w):bodyPost P fn R .ret a w:=by
 refine bodyPost_ret ?_ hde hR
 have b:a.tmps[q]?.getD undef=.pointer (some ⟨g,0,none⟩):=by simpa using hp
 simp [results,h,b,asAddr,run_loadVar_row w g t ty cs.toArray (0,0) d hg hu hd (by simpa using hi)]
theorem bedges_ok {N:Int} {T:List T3} (hs:Surf N T) {e:Int × Int} (he:e∈bedges T):ok2 e:=by
 unfold bedges at he
 obtain ⟨c,a,rfl⟩:=List.mem_map.1 he
 have a:=(mem_bord.1 a).1
 have b:=hs.rng _ (nx_lt a)
 have d:=hs.rng _ (pv_lt a)
 have f:=hs.nmax
 unfold eg
 exact ⟨by unfold I64;simp only [];omega,by unfold I64;simp only [];omega⟩
theorem sewOf_rng {N:Int} {T:List T3} (hs:Surf N T) {J:List P4} (hb:∀ e∈edgs J,e∈bedges T) (k:Nat) (hk:k<(sewOf (labP J) N.toNat).length):∃ m:Nat,(sewOf (labP J) N.toNat)[k]=(m:Int)/\m<rnk (labP J) N.toNat:=by
 have g:∀ e∈edgs J,0<=e.1/\0<=e.2:=fun e he=>by
  have a:=hb e he
  unfold bedges at a
  obtain ⟨c,b,rfl⟩:=List.mem_map.1 a
  have b:=(mem_bord.1 b).1
  unfold eg
  exact ⟨(hs.rng _ (nx_lt b)).1,(hs.rng _ (pv_lt b)).1⟩
 have l:∀ v,0<=v->0<=labP J v:=labE_nonneg fun e he=>by
  obtain ⟨p,f,h⟩:=mem_edP.1 he
  have i:=g p.1 (List.mem_flatMap.2 ⟨p,f,by simp⟩)
  have j:=g p.2 (List.mem_flatMap.2 ⟨p,f,by simp⟩)
  rcases h with rfl | rfl
  ·exact ⟨i.1,j.2⟩
  ·exact ⟨i.2,j.1⟩
 have o:k<N.toNat:=by unfold sewOf at hk;simpa using hk
 have a:=numL_lt (labE_lab (edP J)) l (v:=(k:Int)) (n:=N.toNat) (by omega) (by omega)
 have d:(sewOf (labP J) N.toNat)[k]? = some (numL (labP J) (k:Int)):=by
  unfold sewOf
  rw [List.getElem?_map,List.getElem?_range o];rfl
 rw [zG hk] at d
 have e:=Option.some.inj d
 have q:0<=numL (labP J) (k:Int)/\numL (labP J) (k:Int)<(rnk (labP J) N.toNat:Nat):=a
 exact ⟨(numL (labP J) (k:Int)).toNat,by rw [e];omega,by omega⟩
abbrev noBody:Value:=.agg #[.int .i64 0,.slice none 0 0,.slice none 0 0,.slice none 0 0]
def JoinC (N:Int) (T P:List T3) (K:List Int) (x y turn c:Int):Prop :=
 (¬ Surf N T/\c=11)\/(Surf N T/\mayB N T P K=false/\c=1)\/(Surf N T/\mayB N T P K=true/\(x<0\/y<0\/((lps T N N.toNat).length:Int)<=x\/((lps T N N.toNat).length:Int)<=y)/\c=2) \/
 (Surf N T/\mayB N T P K=true/\∃ i j:Nat,∃ (hi:i<(lps T N N.toNat).length) (hj:j<(lps T N N.toNat).length),x=(i:Int)/\y=(j:Int) /\
  (
    (i=j/\c=9)\/(i≠j/\(lps T N N.toNat)[j].length≠(lps T N N.toNat)[i].length/\c=13) \/
    (
      i≠j/\(lps T N N.toNat)[j].length=(lps T N N.toNat)[i].length /\
      (
        (¬ Surf (rnk (labP (joinP (lps T N N.toNat)[i] (lps T N N.toNat)[j] turn)) N.toNat:Nat) (sewT (labP (joinP (lps T N N.toNat)[i] (lps T N N.toNat)[j] turn)) T)/\c=11) \/
        (Surf (rnk (labP (joinP (lps T N N.toNat)[i] (lps T N N.toNat)[j] turn)) N.toNat:Nat) (sewT (labP (joinP (lps T N N.toNat)[i] (lps T N N.toNat)[j] turn)) T)/\c=0)))))
def JoinMade (wz:World) (N:Int) (T P:List T3) (K:List Int) (x y turn:Int) (v:Value):Prop :=
 ∃ sv pv kv,v=.agg #[.int .i64 (rnk (labP (joinP ((lps T N N.toNat).getD x.toNat []) ((lps T N N.toNat).getD y.toNat []) turn)) N.toNat:Nat),sv,pv,kv] /\
  Sl 3 RTri wz wz.heap.size sv (sewT (labP (joinP ((lps T N N.toNat).getD x.toNat []) ((lps T N N.toNat).getD y.toNat []) turn)) T) /\
  Sl 3 RTri wz wz.heap.size pv (jpt (sewOf (labP (joinP ((lps T N N.toNat).getD x.toNat []) ((lps T N N.toNat).getD y.toNat []) turn)) N.toNat) P (rnk (labP (joinP ((lps T N N.toNat).getD x.toNat []) ((lps T N N.toNat).getD y.toNat []) turn)) N.toNat) N.toNat) /\
  Sl 1 RInt wz wz.heap.size kv K
def JoinEnd (w w':World) (N:Int) (T P:List T3) (K:List Int) (x y turn:Int) (v:Value) (c:Int):Prop :=
 JoinC N T P K x y turn c/\(c≠0->v=noBody)/\(c=0->∀ wz:World,(∀ b,w.heap.size<=b->b<w'.heap.size->wz.heap[b]? = w'.heap[b]?)->JoinMade wz N T P K x y turn v)
theorem join45_calls {w:World} {B:Nat} {sv pv kv:Value} {N:Int} {T P:List T3} {K:List Int} (hB0:B<=w.heap.size) (hT:Sl 3 RTri w B sv T) (hP:Sl 3 RTri w B pv P) (hK:Sl 1 RInt w B kv K) (hN:I64 N) (hTl:T.length<=100000) (hPl:P.length<=100000) (hKl:K.length<=1000000) (x y turn:Int) (hx:I64 x) (hy:I64 y) (_htn:I64 turn) :
  Calls Tryz.prog 44 #[.agg #[.int .i64 N,sv,pv,kv],.int .i64 x,.int .i64 y,.int .i64 turn] w fun e w'=>(∃ v c,e=.returned (.tuple #[v,.int .i64 c])/\JoinEnd w w' N T P K x y turn v c)/\Below w.heap.size w w':=by
 obtain ⟨A,cap,rfl,nr⟩:=hT.form
 obtain ⟨Ap,ay,rfl,my⟩:=hP.form
 obtain ⟨Ak,a0,rfl,mx⟩:=hK.form
 have dg:=((Below.refl w.heap.size w).alloc zl (.cells #[.int .i64 N,.slice A T.length cap,.slice Ap P.length ay,.slice Ak K.length a0] 67)).alloc (by simp) (.cells #[.int .i64 0,.slice none 0 0,.slice none 0 0,.slice none 0 0] 67)
 have eu:=(Bk.new w 67 [.int .i64 N,.slice A T.length cap,.slice Ap P.length ay,.slice Ak K.length a0]).alloc (.cells #[.int .i64 0,.slice none 0 0,.slice none 0 0,.slice none 0 0] 67)
 have gh:=Bk.new' (n:=w.heap.size+1) (w:=w.alloc (.cells #[.int .i64 N,.slice A T.length cap,.slice Ap P.length ay,.slice Ak K.length a0] 67)) 67 [.int .i64 0,.slice none 0 0,.slice none 0 0,.slice none 0 0] (by simp)
 have p9:w.heap.size+2<=((w.alloc (.cells #[.int .i64 N,.slice A T.length cap,.slice Ap P.length ay,.slice Ak K.length a0] 67)).alloc (.cells #[.int .i64 0,.slice none 0 0,.slice none 0 0,.slice none 0 0] 67)).heap.size:=by simp
 have fx:=hT.below keeps_tri (dg.mono hB0)
 have it:=hP.below keeps_tri (dg.mono hB0)
 have io:=hK.below keeps_int (dg.mono hB0)
 generalize lq:(w.alloc (.cells #[.int .i64 N,.slice A T.length cap,.slice Ap P.length ay,.slice Ak K.length a0] 67)).alloc (.cells #[.int .i64 0,.slice none 0 0,.slice none 0 0,.slice none 0 0] 67)=w0 at *
 have c0:w0.cell? ⟨w.heap.size,0,none⟩=some (.int .i64 N):=eu.cell 0
 have c1:w0.cell? ⟨w.heap.size,1,none⟩=some (.slice A T.length cap):=eu.cell 1
 have j9:=new_calls (.slice A T.length cap) N T w0 (B:=B) (by omega) fx hN
 have od:=fun w=>build_body0 w
 have et:∀ (wz:World) (hz:Below w0.heap.size w0 wz),Bk ((((wz.setCell ⟨w.heap.size+1,0,none⟩ (.int .i64 0)).setCell ⟨w.heap.size+1,1,none⟩ (.slice none 0 0)).setCell ⟨w.heap.size+1,2,none⟩ (.slice none 0 0)).setCell ⟨w.heap.size+1,3,none⟩ (.slice none 0 0)) (w.heap.size+1) 67 [.int .i64 0,.slice none 0 0,.slice none 0 0,.slice none 0 0] /\
   Below w.heap.size w ((((wz.setCell ⟨w.heap.size+1,0,none⟩ (.int .i64 0)).setCell ⟨w.heap.size+1,1,none⟩ (.slice none 0 0)).setCell ⟨w.heap.size+1,2,none⟩ (.slice none 0 0)).setCell ⟨w.heap.size+1,3,none⟩ (.slice none 0 0)):=fun wz hz =>
  ⟨((((gh.below hz (by omega)).set 0 (.int .i64 0)).set 1 (.slice none 0 0)).set 2 (.slice none 0 0)).set 3 (.slice none 0 0),
   ((((dg.trans (hz.mono (by omega))).setCell (p:=⟨w.heap.size+1,0,none⟩) (by show w.heap.size<=w.heap.size+1;omega) (.int .i64 0)).setCell (p:=⟨w.heap.size+1,1,none⟩) (by show w.heap.size<=w.heap.size+1;omega) (.slice none 0 0)).setCell (p:=⟨w.heap.size+1,2,none⟩) (by show w.heap.size<=w.heap.size+1;omega) (.slice none 0 0)).setCell (p:=⟨w.heap.size+1,3,none⟩) (by show w.heap.size<=w.heap.size+1;omega) (.slice none 0 0)⟩
 obtain ⟨ob,oa,o9,ff,fe,fc,dv,bk,jx,ap⟩:=zz10 hT hP hK fx it io eu gh j9 et;clear hT hP hK fx it io eu gh j9 et
 go_enter Tryz.func44,Tryz.ntmps44
 go_wp2_with fail
 clear lq
 refine jx.out.mono ?_
 rintro e w1 ⟨⟨tv,a1,a2,a3,rfl,lm⟩,av⟩
 have lx:=av.size
 obtain ⟨w2,je⟩:∃ w2,w1.alloc (.cells #[.int .i64 a1,.int .i64 a2,.int .i64 a3] 48)=w2:=⟨_,rfl⟩
 have g4:Below w1.heap.size w1 w2:=by rw [<- je];exact (Below.refl w1.heap.size w1).alloc zl _
 have br:=av.trans (g4.mono lx)
 have ly:=br.size
 have ar:=bk.out.below br (by omega)
 have r0:w2.cell? ⟨w.heap.size+1,0,none⟩=some (.int .i64 0):=ar.cell 0
 have r1:w2.cell? ⟨w.heap.size+1,1,none⟩=some (.slice none 0 0):=ar.cell 1
 have r2:w2.cell? ⟨w.heap.size+1,2,none⟩=some (.slice none 0 0):=ar.cell 2
 have r3:w2.cell? ⟨w.heap.size+1,3,none⟩=some (.slice none 0 0):=ar.cell 3
 have rf:=ar.frozen
 rcases lm with ⟨hs,cz⟩ | ⟨gn,rfl⟩
 case inr =>
  have hF:=ap.out w2 br
  have a7:JoinC N T P K x y turn 11:=.inl ⟨gn,rfl⟩
  obtain ⟨i8,aj,aq,na⟩:=zz4 ar hF a7 gn;clear ar hF a7 gn
  go_wp2_with fail
  refine ret_ct rfl rfl aj.out.1 Tryz.underlying67 rfl (by kernel_rfl) rfl ?_
  exact ⟨⟨_,11,rfl,aq.out,fun _=>rfl,fun d=>absurd d (by decide)⟩,aj.out.2⟩
 obtain ⟨pt,ln⟩:∃ pt,tv=.pointer (some pt):=by
  obtain ⟨g,_,_,_,_,_,rfl,_⟩:=cz
  exact ⟨_,rfl⟩
 subst ln
 have bm:=dv.out.below br (by omega)
 have d0:w2.cell? ⟨w.heap.size,0,none⟩=some (.int .i64 N):=bm.cell 0
 have d1:w2.cell? ⟨w.heap.size,1,none⟩=some (.slice A T.length cap):=bm.cell 1
 have d2:w2.cell? ⟨w.heap.size,2,none⟩=some (.slice Ap P.length ay):=bm.cell 2
 have d3:w2.cell? ⟨w.heap.size,3,none⟩=some (.slice Ak K.length a0):=bm.cell 3
 have hm:=may_calls (w:=w2) (B:=B) (N:=N) (by omega) (ff.out.below keeps_tri (br.mono (by omega))) (fe.out.below keeps_tri (br.mono (by omega))) (fc.out.below keeps_int (br.mono (by omega))) hTl hPl hKl
 have ez:=cz.below g4 zl
 obtain ⟨ae,mt,fo,mk,i8,l1⟩:=zz6 hs cz ez bm ar hm;clear hs cz ez bm ar hm
 go_wp2_with fail
 clear je
 refine l1.out.mono ?_
 rintro e w3 ⟨rfl,ix⟩
 have em:=br.trans (ix.mono ly)
 have lz:=em.size
 have au:=bk.out.below em (by omega)
 have r0:w3.cell? ⟨w.heap.size+1,0,none⟩=some (.int .i64 0):=au.cell 0
 have r1:w3.cell? ⟨w.heap.size+1,1,none⟩=some (.slice none 0 0):=au.cell 1
 have r2:w3.cell? ⟨w.heap.size+1,2,none⟩=some (.slice none 0 0):=au.cell 2
 have r3:w3.cell? ⟨w.heap.size+1,3,none⟩=some (.slice none 0 0):=au.cell 3
 have rf:=au.frozen
 cases ce:mayB N T P K with
 | false =>
  have hF:=ap.out w3 em
  have a7:JoinC N T P K x y turn 1:=.inr (.inl ⟨ae.out,ce,rfl⟩)
  obtain ⟨i9,aj,aq,bw⟩:=zz4 au hF a7 ce;clear au hF a7 ce
  go_wp2_with fail
  refine ret_ct rfl rfl aj.out.1 Tryz.underlying67 rfl (by kernel_rfl) rfl ?_
  exact ⟨⟨_,1,rfl,aq.out,fun _=>rfl,fun d=>absurd d (by decide)⟩,aj.out.2⟩
 | true =>
  have a6:=bloops_calls (.inl (fo.out.below ix (by have:=g4.size;omega))) ae.out
  obtain ⟨i9,bw,jp⟩:=zz3 au ce a6;clear au ce a6
  go_wp2_with fail
  refine jp.out.mono ?_
  rintro e w4 ⟨⟨lv,rfl,ac⟩,iy⟩
  have de:=em.trans (iy.mono lz)
  have m0:=de.size
  have oo:=iy.size
  have mz:=lps_len T N N.toNat
  have ot:=ae.out.nmax
  have os:=ae.out.n0
  obtain ⟨Ar,cs,rfl⟩:∃ Ar cs,lv=.slice Ar (lps T N N.toNat).length cs:=by
   obtain ⟨vs,_,d,_⟩:=ac
   obtain ⟨Ar,cs,h8,_⟩:=own_form d
   exact ⟨Ar,cs,h8⟩
  have a8:=fun L hL=>ae.out.lps_round (k:=N.toNat) (L:=L) hL
  have af:=fun i j hi hj dj=>ae.out.lps_apart (k:=N.toNat) (x:=i) (y:=j) hi hj dj
  have ak:=ae.out.lps_each N.toNat
  have bz:=fun c=>(show (x<0\/y<0\/((lps T N N.toNat).length:Int)<=x\/((lps T N N.toNat).length:Int)<=y)/\c=2->JoinC N T P K x y turn c from fun d=>.inr (.inr (.inl ⟨ae.out,bw.out,d.1,d.2⟩)))
  have bc:∀ (c:Int) (i j:Nat) (hi:i<(lps T N N.toNat).length) (hj:j<(lps T N N.toNat).length),x=(i:Int)->y=(j:Int) ->
    (
      (i=j/\c=9)\/(i≠j/\(lps T N N.toNat)[j].length≠(lps T N N.toNat)[i].length/\c=13) \/
      (
        i≠j/\(lps T N N.toNat)[j].length=(lps T N N.toNat)[i].length /\
        (
          (¬ Surf (rnk (labP (joinP (lps T N N.toNat)[i] (lps T N N.toNat)[j] turn)) N.toNat:Nat) (sewT (labP (joinP (lps T N N.toNat)[i] (lps T N N.toNat)[j] turn)) T)/\c=11) \/
          (Surf (rnk (labP (joinP (lps T N N.toNat)[i] (lps T N N.toNat)[j] turn)) N.toNat:Nat) (sewT (labP (joinP (lps T N N.toNat)[i] (lps T N N.toNat)[j] turn)) T)/\c=0))))->JoinC N T P K x y turn c :=
   fun c i j hi hj e1 e2 d=>.inr (.inr (.inr ⟨ae.out,bw.out,i,j,hi,hj,e1,e2,d⟩))
  generalize bs:lps T N N.toNat=L at *
  have ag:=bk.out.below de (by omega)
  have r0:w4.cell? ⟨w.heap.size+1,0,none⟩=some (.int .i64 0):=ag.cell 0
  have r1:w4.cell? ⟨w.heap.size+1,1,none⟩=some (.slice none 0 0):=ag.cell 1
  have r2:w4.cell? ⟨w.heap.size+1,2,none⟩=some (.slice none 0 0):=ag.cell 2
  have r3:w4.cell? ⟨w.heap.size+1,3,none⟩=some (.slice none 0 0):=ag.cell 3
  have rf:=ag.frozen
  by_cases gt:x<0\/y<0\/(L.length:Int)<=x\/(L.length:Int)<=y
  ·have hF:=ap.out w4 de
   have a7:=bz 2 ⟨gt,rfl⟩
   obtain ⟨eh,aj,aq,da,ci,ch,d8,l0,kz,ds⟩:=zz10 ag hF a7 ac a8 af ak bz bc bs;clear ag hF a7 ac a8 af ak bz bc bs
   rcases (by omega:x<0\/(¬ x<0/\y<0)\/(¬ x<0/\¬ y<0/\(L.length:Int)<=x)\/(¬ x<0/\¬ y<0/\¬ (L.length:Int)<=x/\(L.length:Int)<=y)) with q | ⟨q,q2⟩ | ⟨q,q2,q3⟩ | ⟨q,q2,q3,q4⟩
   all_goals
    clear gt
    go_wp2_with fail
    all_goals first | (exfalso;omega) | skip
    refine ret_ct rfl rfl aj.out.1 Tryz.underlying67 rfl (by kernel_rfl) rfl ?_
    exact ⟨⟨_,2,rfl,aq.out,fun _=>rfl,fun d=>absurd d (by decide)⟩,aj.out.2⟩
  obtain ⟨i,rfl⟩:∃ i:Nat,x=(i:Int):=⟨x.toNat,by omega⟩
  obtain ⟨j,rfl⟩:∃ j:Nat,y=(j:Int):=⟨y.toNat,by omega⟩
  have hi:i<L.length:=by omega
  have hj:j<L.length:=by omega
  clear gt
  have a7:=fun c=>bc c i j hi hj rfl rfl
  clear bz bc
  by_cases ck:i=j
  ·have hF:=ap.out w4 de
   have ga:=a7 9 (.inl ⟨ck,rfl⟩)
   subst ck
   have lw:((i:Int) == (i:Int))=true:=beq_iff_eq.2 rfl
   obtain ⟨eh,aj,aq,i5,da,ci,ch,d8,ds⟩:=zz9 ag hF a7 ga ac a8 af ak bs;clear ag hF a7 ga ac a8 af ak bs
   go_wp2_with fail
   all_goals first | (exfalso;omega) | skip
   refine ret_ct rfl rfl aj.out.1 Tryz.underlying67 rfl (by kernel_rfl) rfl ?_
   exact ⟨⟨_,9,rfl,i5.out,fun _=>rfl,fun d=>absurd d (by decide)⟩,aj.out.2⟩
  have lw:((i:Int) == (j:Int))=false:=beq_eq_false_iff_ne.2 (by omega)
  obtain ⟨gr,v1,fu,l9,_,b5,d4⟩:=ac.at_ rfl hi
  obtain ⟨om,v2,c9,la,_,_,d5⟩:=ac.at_ rfl hj
  subst fu
  injection c9 with c9
  injection c9 with c9
  subst c9
  have oz:=(ak _ (List.getElem_mem hi)).1
  have p4:=(ak _ (List.getElem_mem hj)).1
  have gu:=a8 _ (List.getElem_mem hi)
  have gv:=a8 _ (List.getElem_mem hj)
  have ja:=af i j hi hj ck
  have p0:L[i].length<=4096:=by
   have h1:=nodup_len gu.2.1 (m:=List.range N.toNat) fun a ha=>List.mem_range.2 (by
    have:=ae.out.lps_lt (k:=N.toNat) (L:=L[i]) (by rw [bs];exact List.getElem_mem hi) ha
    omega)
   rw [List.length_range] at h1
   omega
  have p5:L[j].length<=4096:=by
   have h1:=nodup_len gv.2.1 (m:=List.range N.toNat) fun a ha=>List.mem_range.2 (by
    have:=ae.out.lps_lt (k:=N.toNat) (L:=L[j]) (by rw [bs];exact List.getElem_mem hj) ha
    omega)
   rw [List.length_range] at h1
   omega
  have j2:L.getD i []=L[i]:=by rw [List.getD_eq_getElem?_getD,zG hi];rfl
  have j3:L.getD j []=L[j]:=by rw [List.getD_eq_getElem?_getD,zG hj];rfl
  generalize L[i]=p at *
  generalize L[j]=q at *
  obtain ⟨gp,ij,rfl,nt,kp⟩:=own_some d4 (by omega)
  obtain ⟨gq,ik,rfl,nu,kq⟩:=own_some d5 (by omega)
  have j0:∀ k (hk:k<p.length),w4.cell? ⟨gp,k,none⟩=some (.int .i64 (p[k]:Int)):=fun k hk=>(d4.cellAt k (by omega)).trans (nvals_at hk)
  have j1:∀ k (hk:k<q.length),w4.cell? ⟨gq,k,none⟩=some (.int .i64 (q[k]:Int)):=fun k hk=>(d5.cellAt k (by omega)).trans (nvals_at hk)
  have ng:w4.drew.cell? ⟨gr,i,none⟩=some (.slice (some ⟨gp,0,none⟩) p.length ij):=l9
  have nh:w4.drew.cell? ⟨gr,j,none⟩=some (.slice (some ⟨gq,0,none⟩) q.length ik):=la
  obtain ⟨w5,f0⟩:∃ w5,(w4.alloc (.cells #[.int .i64 (p.length:Int)] 3)).drew=w5:=⟨_,rfl⟩
  have e0:Below w4.heap.size w4 w5:=by rw [<- f0];exact ((Below.refl w4.heap.size w4).alloc zl _).drew
  have gi:Bk w5 w4.heap.size 3 [.int .i64 (p.length:Int)]:=by rw [<- f0];exact (Bk.new w4 _ _).drew
  have en:=de.trans (e0.mono m0)
  have pa:w4.heap.size+1<=w5.heap.size:=by rw [<- f0];simp
  have g0:w5.cell? ⟨w4.heap.size,0,none⟩=some (.int .i64 (p.length:Int)):=gi.cell 0
  have b6:=bk.out.below en (by omega)
  have r0:w5.cell? ⟨w.heap.size+1,0,none⟩=some (.int .i64 0):=b6.cell 0
  have r1:w5.cell? ⟨w.heap.size+1,1,none⟩=some (.slice none 0 0):=b6.cell 1
  have r2:w5.cell? ⟨w.heap.size+1,2,none⟩=some (.slice none 0 0):=b6.cell 2
  have r3:w5.cell? ⟨w.heap.size+1,3,none⟩=some (.slice none 0 0):=b6.cell 3
  have rf:=b6.frozen
  have hF:=ap.out w5 en
  obtain ⟨eh,mo,cr,da,ci,ch,d8,ds,mu,mv,k5,k6⟩:=zz12 ag b6 gi ac a8 af ak bs d4 d5 gu gv;obtain ⟨jy,jq,jr,aj,js,jt⟩:=zz6 ja j0 j1 hF j2 j3;clear ag b6 gi ac a8 af ak bs d4 d5 gu gv ja j0 j1 hF j2 j3
  go_wp2_with fail
  all_goals first | (exfalso;omega) | skip
  refine Canon.wp_region_text mixed (by kernel_rfl) ?_
  go_wp2_with fail
  refine Canon.chk (by rfl) ?_
  by_cases cm:q.length=p.length
  case neg =>
   have lj:((q.length:Int) != (p.length:Int))=true:=bne_iff_ne.2 (by omega)
   have er:=a7 13 (.inr (.inl ⟨ck,cm,rfl⟩))
   obtain ⟨aq,fh⟩:=zz2 a7 er;clear a7 er
   go_wp2_with fail
   all_goals first | (exfalso;omega) | skip
   refine ret_ct rfl rfl aj.out.1 Tryz.underlying67 rfl (by kernel_rfl) rfl ?_
   exact ⟨⟨_,13,rfl,fh.out,fun _=>rfl,fun d=>absurd d (by decide)⟩,aj.out.2⟩
  have lj:((q.length:Int) != (p.length:Int))=false:=bne_eq_false_iff_eq.2 (by omega)
  obtain ⟨m1,m2⟩:=tmod_near turn (show (0:Int)<(p.length:Int) by omega)
  obtain ⟨t1,t2⟩:=tmod_round turn (show (0:Int)<(p.length:Int) by omega)
  have u1:=Int.emod_nonneg turn (show (p.length:Int)≠0 by omega)
  have u2:=Int.emod_lt_of_pos turn (show (0:Int)<(p.length:Int) by omega)
  obtain ⟨r,hr⟩:∃ r:Nat,turn % (p.length:Int)=(r:Int):=⟨(turn % (p.length:Int)).toNat,by omega⟩
  rw [hr] at t1 t2 u1 u2
  have j4:joinP p q turn=joinP p q (r:Int):=joinP_turn p q (by rw [cm,hr,Int.emod_eq_of_lt (by omega) (by omega)])
  obtain ⟨m,hm⟩:∃ m,turn.tmod (p.length:Int)=m:=⟨_,rfl⟩
  rw [hm] at m1 m2 t1 t2
  have p6:r<p.length:=by omega
  have cf:=join_placed ae.out k5.out k6.out cm jy.out turn
  have es:=placed_zero cf
  have oy:p.length<=4096:=by omega
  have ol:w5.drew.cell? ⟨w4.heap.size,0,none⟩=some (.int .i64 (p.length:Int)):=g0
  have gs:=Below.refl w5.heap.size w5
  have fz:∀ wz,Below w5.heap.size w5 wz->∀ i:Int,Calls Tryz.prog 90 #[.slice (some ⟨gp,0,none⟩) p.length ij,.int .i64 i,.pointer (some ⟨w4.heap.size,0,none⟩)] wz fun e w'=>e=.returned (.int .i64 (jAt p i))/\Below wz.heap.size wz w':=fun wz hz i =>
   jat_calls (cr.out.below hz cr.out.lt) rfl (fun k hk=>(hz.cell (p:=⟨gp,k,none⟩) (by show gp<_;omega)).trans ((e0.cell (p:=⟨gp,k,none⟩) kp).trans (jq.out k hk))) (by omega) (by omega) i
  have g2:∀ wz,Below w5.heap.size w5 wz->∀ i:Int,Calls Tryz.prog 90 #[.slice (some ⟨gq,0,none⟩) q.length ik,.int .i64 i,.pointer (some ⟨w4.heap.size,0,none⟩)] wz fun e w'=>e=.returned (.int .i64 (jAt q i))/\Below wz.heap.size wz w':=fun wz hz i =>
   jat_calls (cr.out.below hz cr.out.lt) cm (fun k hk=>(hz.cell (p:=⟨gq,k,none⟩) (by show gq<_;omega)).trans ((e0.cell (p:=⟨gq,k,none⟩) kq).trans (jr.out k hk))) (by omega) (by omega) i
  obtain ⟨aq,dw,ju,f3,d9,oc,ed,ee⟩:=zz8 a7 cm j4 cf es hr fz g2;clear a7 cm j4 cf es hr fz g2
  go_wp2_with fail
  all_goals first | (exfalso;omega) | skip
  refine Canon.wp_region_text mixed (by kernel_rfl) ?_
  go_wp2_with fail
  refine Canon.chk (by rfl) ?_
  go_wp2_with fail
  clear f0 t1 t2 m1 m2 hm
  go_loopw [17,86] (fun pv kv wr=>∃ (k:Nat) (A6:Option Addr) (c7:Nat),k<=p.length/\kv=.int .i64 (k:Int)/\pv=.slice A6 k c7/\wr.ownsRow w5.heap.size 41 4 (.slice A6 k c7) k (quad ((joinP p q (r:Int)).take k))/\Below w5.heap.size w5 wr) (fun _ kv _=>p.length - (intOf kv).toNat)
  case atStart=>exact ⟨0,none,0,by omega,rfl,rfl,World.ownsRow_nil _ _ _ _,by first | exact gs | exact gs.drew | exact gs.drew.drew⟩
  case round =>
   obtain ⟨k,A6,c7,hk,rfl,rfl,b8,aw⟩:=hrel
   obtain ⟨wq,ls⟩:∃ wq,wq=wr:=⟨_,rfl⟩
   subst ls
   have m3:=aw.size
   by_cases j7:k<p.length
   ·have jc:=joinP_take (q:=q) (turn:=(r:Int)) j7
    have k1:=ed.out wq aw ((k:Int)+1)
    have k2:=fun wz hz=>ed.out wz hz (k:Int)
    have k3:=fun wz hz=>ee.out wz hz ((r:Int) - (k:Int))
    have k4:=fun wz hz=>ee.out wz hz ((r:Int) - (k:Int) - 1)
    generalize jAt p ((k:Int)+1)=a1 at *
    generalize jAt p (k:Int)=a2 at *
    generalize jAt q ((r:Int) - (k:Int))=b1 at *
    generalize jAt q ((r:Int) - (k:Int) - 1)=b2 at *
    obtain ⟨k9,l5,l6,l7,l8,el⟩:=zz6 jc k1 k2 k3 k4 b8;clear jc k1 k2 k3 k4 b8
    go_wp2_with fail
    all_goals first | (exfalso;omega) | skip
    refine l5.out.mono ?_
    rintro e x1 ⟨rfl,dm⟩
    have e4:=aw.trans (dm.mono m3)
    have jh:=l6.out x1 e4
    have ka:=zz jh;clear jh
    go_wp2_with fail
    all_goals first | (exfalso;omega) | skip
    refine ka.out.mono ?_
    rintro e x2 ⟨rfl,cn⟩
    have e5:=e4.trans (cn.mono e4.size)
    have ji:=l7.out x2 e5
    have kd:=zz ji;clear ji
    go_wp2_with fail
    all_goals first | (exfalso;omega) | skip
    refine kd.out.mono ?_
    rintro e x3 ⟨rfl,h5⟩
    have e6:=e5.trans (h5.mono e5.size)
    have jj:=l8.out x3 e6
    have ke:=zz jj;clear jj
    go_wp2_with fail
    all_goals first | (exfalso;omega) | skip
    refine ke.out.mono ?_
    rintro e x4 ⟨rfl,jf⟩
    have g7:=e6.trans (jf.mono e6.size)
    have lo:Below wq.heap.size wq x4:=((dm.trans (cn.mono dm.size)).trans (h5.mono (Nat.le_trans dm.size cn.size))).trans (jf.mono (Nat.le_trans dm.size (Nat.le_trans cn.size h5.size)))
    have ks:=g7.size
    have cw:=own_below el.out lo zl
    obtain ⟨wl,f1⟩:∃ wl,x4.alloc (.cells #[.int .i64 a1,.int .i64 a2,.int .i64 b1,.int .i64 b2] 41)=wl:=⟨_,rfl⟩
    have gj:Bk wl x4.heap.size 41 [.int .i64 a1,.int .i64 a2,.int .i64 b1,.int .i64 b2]:=by rw [<- f1];exact Bk.new x4 _ _
    have ex:wl.ownsRow w5.heap.size 41 4 (.slice A6 k c7) k (quad ((joinP p q (r:Int)).take k)):=by rw [<- f1];exact cw.alloc _
    have a6:Below w5.heap.size w5 wl:=by rw [<- f1];exact g7.alloc ks _
    have pc:=a6.size
    have ew:∀ ad,(some ⟨x4.heap.size,0,none⟩:Option Addr)=some ad->∀ j u,([.int .i64 a1,.int .i64 a2,.int .i64 b1,.int .i64 b2]:List Value)[j]? = some u->wl.cell? (ad.add j)=some u:=fun ad e j u hj=>by
     injection e with e
     subst e
     rw [Addr.add_lit,Nat.zero_add]
     exact (gj.cell j).trans hj
    obtain ⟨l2,n7,fl,fj⟩:=zz4 cw gj ex ew;clear cw gj ex ew
    go_wp2_with (at_builtin;refine wpList_append_opt rfl (.tmp 89) (.tmp 115) 29 rfl w5.heap.size Tryz.underlying29 infoPr rfl (by decide) _ k (quad ((joinP p q (r:Int)).take k)) rfl fl.out (some ⟨x4.heap.size,0,none⟩) 1 1 [.int .i64 a1,.int .i64 a2,.int .i64 b1,.int .i64 b2] rfl rfl (fun h=>by cases h) fj.out (by simp [Value.oneCell']) (by omega) (by decide) (by omega) ?_)
    all_goals first | (exfalso;omega) | skip
    intro v' F c2 gd lh _
    clear f1
    obtain ⟨A7,kf,rfl,mw⟩:=own_form c2
    rw [show quad ((joinP p q (r:Int)).take k)++[.int .i64 a1,.int .i64 a2,.int .i64 b1,.int .i64 b2]=quad ((joinP p q (r:Int)).take (k+1)) by rw [k9.out,quad_snoc]] at c2
    have kl:=a6.trans lh
    obtain ⟨fk,mi⟩:=zz2 c2 gd;clear c2 gd
    go_wp2_with fail
    all_goals first | (exfalso;omega) | skip
    exact ⟨⟨k+1,A7,kf,by omega,by simp,rfl,fk.out,kl⟩,by simp [intOf];omega⟩
   ·obtain rfl:k=p.length:=by omega
    rw [List.take_of_length_le (by rw [joinP_len];exact zl),<- ju.out] at b8
    have be:(joinP p q turn).length=p.length:=joinP_len _ _ _
    have cy:Sl 4 R4 wq wq.heap.size (.slice A6 p.length c7) (joinP p q turn):=Sl.of_own (base:=w5.heap.size) (e:=41) (xs:=quad (joinP p q turn)) (by rw [be];exact b8) fun i a hi=>quad_at _ i a hi
    have ep:=en.trans (aw.mono en.size)
    have kt:=ep.size
    have fy:=(ff.out.below keeps_tri (ep.mono (show B<=w0.heap.size by omega))).keep keeps_tri (Below.refl _ _) (show B<=wq.heap.size by omega)
    have gx:=sew_calls2 (w:=wq) (B:=wq.heap.size) fy cy zl hN (by rw [be];omega) (fun e he=>bedges_ok ae.out (of_decide_eq_true (d9.out.1 e he)))
    have cv:=dv.out.below ep (by omega)
    have d0:wq.cell? ⟨w.heap.size,0,none⟩=some (.int .i64 N):=cv.cell 0
    have d1:wq.cell? ⟨w.heap.size,1,none⟩=some (.slice A T.length cap):=cv.cell 1
    have gg:=dw.out
    obtain ⟨J,hJ⟩:∃ J,joinP p q turn=J:=⟨_,rfl⟩
    have e7:=aq.out
    have e9:=f3.out
    rw [hJ] at gx cy b8 be e9 e7
    obtain ⟨el,mr,n3,k8,mn,fi,ih,ef,ib,mj⟩:=zz10 b8 cy fy gx cv be hJ e7 e9 gg;clear b8 cy fy gx cv be hJ e7 e9 gg
    go_wp2_with fail
    all_goals first | (exfalso;omega) | skip
    refine k8.out.mono ?_
    rintro e w6 ⟨⟨xv,ov,c,rfl,bl,ct⟩,lg⟩
    have eo:=ep.trans (lg.mono kt)
    have jg:=eo.size
    have cc:=bk.out.below eo (by omega)
    by_cases g8:c=0
    case neg =>
     have ou:(c != 0)=true:=bne_iff_ne.2 g8
     have dk:c=11/\¬ Surf (rnk (labP J) N.toNat:Nat) (sewT (labP J) T)/\NoSew xv ov:=by
      rcases bl with ⟨h1,_⟩ | ⟨_,h1,h2,_⟩ | ⟨_,_,h1,h2,h3⟩ | ⟨_,_,_,h1,_⟩
      ·exact absurd ae.out h1
      ·exact absurd (h1.trans ib.out) h2
      ·exact ⟨h2,h1,h3⟩
      ·exact absurd h1 g8
     obtain ⟨rfl,gk,rfl,rfl⟩:=dk
     have eq:=ef.out 11 (.inr (.inr ⟨ck,dw.out,.inl ⟨gk,rfl⟩⟩))
     have b7:=cc.alloc (.cells #[.int .i64 0,.slice none 0 0] 24)
     have c8:=eo.alloc jg (.cells #[.int .i64 0,.slice none 0 0] 24)
     have im:=ap.out _ c8
     have r0:(w6.alloc (.cells #[.int .i64 0,.slice none 0 0] 24)).cell? ⟨w.heap.size+1,0,none⟩=some (.int .i64 0):=b7.cell 0
     have r1:(w6.alloc (.cells #[.int .i64 0,.slice none 0 0] 24)).cell? ⟨w.heap.size+1,1,none⟩=some (.slice none 0 0):=b7.cell 1
     have r2:(w6.alloc (.cells #[.int .i64 0,.slice none 0 0] 24)).cell? ⟨w.heap.size+1,2,none⟩=some (.slice none 0 0):=b7.cell 2
     have r3:(w6.alloc (.cells #[.int .i64 0,.slice none 0 0] 24)).cell? ⟨w.heap.size+1,3,none⟩=some (.slice none 0 0):=b7.cell 3
     have rf:=b7.frozen
     obtain ⟨i6,cp,ia,mp,n9,fg,fb⟩:=zz7 bl ct cc b7 gk eq im;clear bl ct cc b7 gk eq im
     go_wp2_with fail
     all_goals first | (exfalso;omega) | skip
     refine ret_ct rfl rfl fb.out.1 Tryz.underlying67 rfl (by kernel_rfl) rfl ?_
     exact ⟨⟨_,11,rfl,fg.out,fun _=>rfl,fun d=>absurd d (by decide)⟩,fb.out.2⟩
    subst g8
    have ic:∃ O W Ao co,xv=.agg #[.int .i64 (rnk (labP J) N.toNat:Nat),.slice O T.length W]/\ov=.slice Ao (sewOf (labP J) N.toNat).length co/\Surf (rnk (labP J) N.toNat:Nat) (sewT (labP J) T):=by
     rcases bl with ⟨_,h1,_⟩ | ⟨_,_,h2,_⟩ | ⟨_,_,_,h2,_⟩ | ⟨_,_,h1,_,xs,h2,h3,h4⟩
     ·exact absurd h1 (by decide)
     ·exact absurd rfl h2
     ·exact absurd h2 (by decide)
     ·obtain ⟨O,W,rfl,_⟩:=h3.form
      obtain ⟨Ao,co,rfl,_⟩:=h4.form
      rw [show (sewT (labP J) T).length=T.length by unfold sewT;rw [List.length_map]] at h2
      exact ⟨O,W,Ao,co,h2,rfl,h1⟩
    obtain ⟨O,W,Ao,co,rfl,rfl,df⟩:=ic
    have ld:=df.nmax
    have g9:=ef.out 0 (.inr (.inr ⟨ck,dw.out,.inr ⟨df,rfl⟩⟩))
    obtain ⟨M,hM⟩:∃ M,rnk (labP J) N.toNat=M:=⟨_,rfl⟩
    obtain ⟨no,dk⟩:∃ no,(sewOf (labP J) N.toNat).length=no:=⟨_,rfl⟩
    rw [hM] at ld df ⊢
    rw [dk]
    obtain ⟨F,dl⟩:∃ F,w6.alloc (.cells #[.int .i64 (M:Nat),.slice O T.length W] 24)=F:=⟨_,rfl⟩
    have e3:Below w6.heap.size w6 F:=by rw [<- dl];exact (Below.refl w6.heap.size w6).alloc zl _
    have di:Bk F w6.heap.size 24 [.int .i64 (M:Nat),.slice O T.length W]:=by rw [<- dl];exact Bk.new w6 _ _
    have pb:w6.heap.size+1<=F.heap.size:=by rw [<- dl];simp
    have c8:=eo.trans (e3.mono jg)
    have ip:=fc.out.below keeps_int (c8.mono (show B<=w0.heap.size by omega))
    have iu:=fe.out.below keeps_tri (c8.mono (show B<=w0.heap.size by omega))
    have cu:=dv.out.below c8 (by omega)
    have v0:F.cell? ⟨w6.heap.size,0,none⟩=some (.int .i64 (M:Nat)):=di.cell 0
    have v1:F.cell? ⟨w6.heap.size,1,none⟩=some (.slice O T.length W):=di.cell 1
    have vf:=di.frozen
    have v2:F.cell? ⟨w.heap.size,2,none⟩=some (.slice Ap P.length ay):=cu.cell 2
    have v3:F.cell? ⟨w.heap.size,3,none⟩=some (.slice Ak K.length a0):=cu.cell 3
    have cj:B<=F.heap.size:=by omega
    have on:((0:Int) != 0)=false:=rfl
    obtain ⟨i6,cp,ia,ii,dx,n2,i4,n6,c3,jm,ml⟩:=zz11 bl ct cc hM dk df g9 di ip iu cu;clear bl ct cc hM dk df g9 di ip iu cu
    go_upto_region 26 with fail
    all_goals first | (exfalso;omega) | skip
    try rw [dl]
    clear dl
    go_cut [22] (fun s22 wx=>JoinLaid F K M (.slice O T.length W) s22 wx)
    case first =>
     have H:=(Below.refl F.heap.size F).drew
     have ox:=fun w=>run_make_pts M (by omega) w
     have md:F.drew.cell? ⟨w6.heap.size,0,none⟩=some (.int .i64 (M:Nat)):=v0
     have pg:F.drew.cell? ⟨w6.heap.size,1,none⟩=some (.slice O T.length W):=v1
     have mf:F.drew.cell? ⟨w.heap.size,3,none⟩=some (.slice Ak K.length a0):=v3
     have oq:w6.heap.size<F.heap.size:=by omega
     have nw:w.heap.size<F.heap.size:=by omega
     clear v0 v1 v3
     go_wp2_with fail
     refine Canon.wp_region_tree [0,2,5] (fun b9=>b9=w6.heap.size\/b9=w.heap.size) (.seg [0,1,2,4,5] (.alt 3 (.alt 6 (.seg [7] (.alt 8 (.alt 9 .fin .no) .no)) (.alt 8 (.alt 6 (.seg [7] (.alt 9 .fin .no)) .no) .no)) (.alt 6 (.alt 3 (.seg [7] (.alt 8 (.alt 9 .fin .no) .no)) (.alt 8 (.alt 3 (.seg [7] (.alt 9 .fin .no)) .no) .no)) (.alt 8 (.alt 3 (.alt 6 (.seg [7] (.alt 9 .fin .no)) .no) (.alt 6 (.alt 3 (.seg [7] (.alt 9 .fin .no)) .no) .no)) .no)))) mixed (by kernel_rfl) ?_
     generalize F.drew=C at *
     have v0:=md
     have v3:=mf
     have ph:=H.size
     refine Canon.tr_seg ?_
     simp only [zmC,zmN,zgZ,zgS]
     go_wp2_with fail
     refine Canon.tr_to (Canon.tr_alt ?_ (Canon.tr_alt ?_ (Canon.tr_one ?_)))
     ·simp only [zgZ,zgS]
      go_wp2_with fail
      have bo:Below C.heap.size C (C.alloc (.cells (flat3 (List.replicate M ((0:Int),(0:Int),(0:Int)))).toArray 74)):=(Below.refl C.heap.size C).alloc zl _
      have km:Bk (C.alloc (.cells (flat3 (List.replicate M ((0:Int),(0:Int),(0:Int)))).toArray 74)) C.heap.size 74 (flat3 (List.replicate M ((0:Int),(0:Int),(0:Int)))):=Bk.new C _ _
      generalize C.alloc (.cells (flat3 (List.replicate M ((0:Int),(0:Int),(0:Int)))).toArray 74)=s at *
      have Y:=H.trans (bo.mono H.size)
      have jk:=bo.size
      refine Canon.tr_end (fun b9 d=>(Y.block b9 (by rcases d with d | d <;> omega)).trans (H.block b9 (by rcases d with d | d <;> omega)).symm) (Canon.tr_alt ?_ (Canon.tr_one ?_))
      ·simp only [zgZ,zgS]
       have ca:=c3.out.below keeps_int (Y.mono cj)
       obtain ⟨kn,kc⟩:=sl_cells1 ca
       have am:s.ownsRow s.heap.size 3 1 (.slice none 0 0) 0 []:=World.ownsRow_nil _ _ _ _
       refine wpList_append_opt rfl (.const (.slice none 0 0)) (.tmp 135) 28 rfl s.heap.size Tryz.underlying28 info_int rfl (by decide) _ 0 [] rfl am Ak K.length a0 (ivals K) rfl (by unfold ivals;simp) kn kc (ivals_ones K) (by omega) (by decide) zl ?_
       intro v' f X b5 S _
       rw [Nat.zero_add,List.nil_append] at X
       obtain ⟨A2,E,rfl,bx⟩:=own_form X
       clear ca kn kc am b5
       have I:=Y.trans (S.mono Y.size)
       have b0:=S.size
       go_wp2_with fail
       refine Canon.tr_end (fun b9 d=>(I.block b9 (by rcases d with d | d <;> omega)).trans (H.block b9 (by rcases d with d | d <;> omega)).symm) (Canon.tr_seg ?_)
       simp only [zmC,zmN,zgZ,zgS]
       go_wp2_with fail
       refine Canon.tr_to (Canon.tr_one ?_)
       simp only [zgZ,zgS]
       go_wp2_with fail
       have G:Below f.heap.size f (f.alloc (.cells #[.int .i64 0,.slice none 0 0,.slice none 0 0,.slice none 0 0] 67)):=(Below.refl f.heap.size f).alloc zl _
       have Z:Bk (f.alloc (.cells #[.int .i64 0,.slice none 0 0,.slice none 0 0,.slice none 0 0] 67)) f.heap.size 67 [.int .i64 0,.slice none 0 0,.slice none 0 0,.slice none 0 0]:=Bk.new f _ _
       generalize f.alloc (.cells #[.int .i64 0,.slice none 0 0,.slice none 0 0,.slice none 0 0] 67)=D at *
       have a5:=I.trans (G.mono I.size)
       have dq:=G.size
       refine Canon.tr_end (fun b9 d=>(a5.block b9 (by rcases d with d | d <;> omega)).trans (H.block b9 (by rcases d with d | d <;> omega)).symm) (Canon.tr_one ?_)
       simp only [zgZ,zgS]
       have U:Bk D C.heap.size _ _:=km.below (S.trans (G.mono b0)) km.lt
       have t:Bk D f.heap.size _ _:=Z
       have V:=own_base (own_below X G zl) (show F.heap.size<=s.heap.size by omega)
       have s0:D.cell? ⟨f.heap.size,0,none⟩=some (.int .i64 0):=t.cell 0
       have s1:D.cell? ⟨f.heap.size,1,none⟩=some (.slice none 0 0):=t.cell 1
       have s2:D.cell? ⟨f.heap.size,2,none⟩=some (.slice none 0 0):=t.cell 2
       have s3:D.cell? ⟨f.heap.size,3,none⟩=some (.slice none 0 0):=t.cell 3
       have sf:=t.frozen
       have z:JoinLaid F K M (.slice O T.length W) (.pointer (some ⟨f.heap.size,0,none⟩)) ((((D.setCell ⟨f.heap.size,0,none⟩ (.int .i64 (M:Nat))).setCell ⟨f.heap.size,1,none⟩ (.slice O T.length W)).setCell ⟨f.heap.size,2,none⟩ (.slice (some ⟨C.heap.size,0,none⟩) M M)).setCell ⟨f.heap.size,3,none⟩ (.slice A2 K.length E)):=laid_put U t V a5 (by omega) (by omega)
       have a6:Below F.heap.size F ((((D.setCell ⟨f.heap.size,0,none⟩ (.int .i64 (M:Nat))).setCell ⟨f.heap.size,1,none⟩ (.slice O T.length W)).setCell ⟨f.heap.size,2,none⟩ (.slice (some ⟨C.heap.size,0,none⟩) M M)).setCell ⟨f.heap.size,3,none⟩ (.slice A2 K.length E)):=z.below
       obtain ⟨dc,db,dd,c5,c4,c6,Q⟩:=zz7 km Z X U t V z;clear km Z X U t V z
       go_wp2_with fail
       refine Canon.tr_end (fun b9 d=>(a6.block b9 (by rcases d with d | d <;> omega)).trans (H.block b9 (by rcases d with d | d <;> omega)).symm) (Canon.tr_fin (by rfl) (zF ⟨.inl ⟨_,rfl,.inl rfl,by rw [v0];rfl⟩,zF ⟨.inl ⟨_,rfl,.inl rfl,by rw [v0];rfl⟩,zF ⟨.inl ⟨_,rfl,.inr rfl,by rw [v3];rfl⟩,fun _ h=>by cases h⟩⟩⟩) ?_)
       go_wp2_with fail
       go_meet
       exact Q.out
      ·simp only [zgZ,zgS]
       go_wp2_with fail
       have S:Below s.heap.size s (s.alloc (.cells #[.int .i64 0,.slice none 0 0,.slice none 0 0,.slice none 0 0] 67)):=(Below.refl s.heap.size s).alloc zl _
       have Z:Bk (s.alloc (.cells #[.int .i64 0,.slice none 0 0,.slice none 0 0,.slice none 0 0] 67)) s.heap.size 67 [.int .i64 0,.slice none 0 0,.slice none 0 0,.slice none 0 0]:=Bk.new s _ _
       generalize s.alloc (.cells #[.int .i64 0,.slice none 0 0,.slice none 0 0,.slice none 0 0] 67)=f at *
       have I:=Y.trans (S.mono Y.size)
       have b0:=S.size
       refine Canon.tr_end (fun b9 d=>(I.block b9 (by rcases d with d | d <;> omega)).trans (H.block b9 (by rcases d with d | d <;> omega)).symm) (Canon.tr_one ?_)
       simp only [zgZ,zgS]
       have cb:=c3.out.below keeps_int (I.mono cj)
       obtain ⟨kn,kc⟩:=sl_cells1 cb
       have am:f.ownsRow f.heap.size 3 1 (.slice none 0 0) 0 []:=World.ownsRow_nil _ _ _ _
       refine wpList_append_opt rfl (.const (.slice none 0 0)) (.tmp 135) 28 rfl f.heap.size Tryz.underlying28 info_int rfl (by decide) _ 0 [] rfl am Ak K.length a0 (ivals K) rfl (by unfold ivals;simp) kn kc (ivals_ones K) (by omega) (by decide) zl ?_
       intro v' D X b5 G _
       rw [Nat.zero_add,List.nil_append] at X
       obtain ⟨A2,E,rfl,bx⟩:=own_form X
       clear cb kn kc am b5
       have a5:=I.trans (G.mono I.size)
       have dq:=G.size
       go_wp2_with fail
       refine Canon.tr_end (fun b9 d=>(a5.block b9 (by rcases d with d | d <;> omega)).trans (H.block b9 (by rcases d with d | d <;> omega)).symm) (Canon.tr_seg ?_)
       simp only [zmC,zmN,zgZ,zgS]
       go_wp2_with fail
       refine Canon.tr_to (Canon.tr_one ?_)
       simp only [zgZ,zgS]
       have U:Bk D C.heap.size _ _:=km.below (S.trans (G.mono b0)) km.lt
       have t:Bk D s.heap.size _ _:=Z.below G Z.lt
       have V:=own_base (X) (show F.heap.size<=f.heap.size by omega)
       have s0:D.cell? ⟨s.heap.size,0,none⟩=some (.int .i64 0):=t.cell 0
       have s1:D.cell? ⟨s.heap.size,1,none⟩=some (.slice none 0 0):=t.cell 1
       have s2:D.cell? ⟨s.heap.size,2,none⟩=some (.slice none 0 0):=t.cell 2
       have s3:D.cell? ⟨s.heap.size,3,none⟩=some (.slice none 0 0):=t.cell 3
       have sf:=t.frozen
       have z:JoinLaid F K M (.slice O T.length W) (.pointer (some ⟨s.heap.size,0,none⟩)) ((((D.setCell ⟨s.heap.size,0,none⟩ (.int .i64 (M:Nat))).setCell ⟨s.heap.size,1,none⟩ (.slice O T.length W)).setCell ⟨s.heap.size,2,none⟩ (.slice (some ⟨C.heap.size,0,none⟩) M M)).setCell ⟨s.heap.size,3,none⟩ (.slice A2 K.length E)):=laid_put U t V a5 (by omega) (by omega)
       have a6:Below F.heap.size F ((((D.setCell ⟨s.heap.size,0,none⟩ (.int .i64 (M:Nat))).setCell ⟨s.heap.size,1,none⟩ (.slice O T.length W)).setCell ⟨s.heap.size,2,none⟩ (.slice (some ⟨C.heap.size,0,none⟩) M M)).setCell ⟨s.heap.size,3,none⟩ (.slice A2 K.length E)):=z.below
       obtain ⟨dc,db,dd,c5,c4,c6,Q⟩:=zz7 km Z X U t V z;clear km Z X U t V z
       go_wp2_with fail
       refine Canon.tr_end (fun b9 d=>(a6.block b9 (by rcases d with d | d <;> omega)).trans (H.block b9 (by rcases d with d | d <;> omega)).symm) (Canon.tr_fin (by rfl) (zF ⟨.inl ⟨_,rfl,.inl rfl,by rw [v0];rfl⟩,zF ⟨.inl ⟨_,rfl,.inl rfl,by rw [v0];rfl⟩,zF ⟨.inl ⟨_,rfl,.inr rfl,by rw [v3];rfl⟩,fun _ h=>by cases h⟩⟩⟩) ?_)
       go_wp2_with fail
       go_meet
       exact Q.out
     ·simp only [zgZ,zgS]
      have fv:=c3.out.below keeps_int (H.mono cj)
      obtain ⟨kn,kc⟩:=sl_cells1 fv
      have am:C.ownsRow C.heap.size 3 1 (.slice none 0 0) 0 []:=World.ownsRow_nil _ _ _ _
      refine wpList_append_opt rfl (.const (.slice none 0 0)) (.tmp 135) 28 rfl C.heap.size Tryz.underlying28 info_int rfl (by decide) _ 0 [] rfl am Ak K.length a0 (ivals K) rfl (by unfold ivals;simp) kn kc (ivals_ones K) (by omega) (by decide) zl ?_
      intro v' s X b5 bo _
      rw [Nat.zero_add,List.nil_append] at X
      obtain ⟨A2,E,rfl,bx⟩:=own_form X
      clear fv kn kc am b5
      have Y:=H.trans (bo.mono H.size)
      have jk:=bo.size
      go_wp2_with fail
      refine Canon.tr_end (fun b9 d=>(Y.block b9 (by rcases d with d | d <;> omega)).trans (H.block b9 (by rcases d with d | d <;> omega)).symm) (Canon.tr_alt ?_ (Canon.tr_one ?_))
      ·simp only [zgZ,zgS]
       go_wp2_with fail
       have S:Below s.heap.size s (s.alloc (.cells (flat3 (List.replicate M ((0:Int),(0:Int),(0:Int)))).toArray 74)):=(Below.refl s.heap.size s).alloc zl _
       have km:Bk (s.alloc (.cells (flat3 (List.replicate M ((0:Int),(0:Int),(0:Int)))).toArray 74)) s.heap.size 74 (flat3 (List.replicate M ((0:Int),(0:Int),(0:Int)))):=Bk.new s _ _
       generalize s.alloc (.cells (flat3 (List.replicate M ((0:Int),(0:Int),(0:Int)))).toArray 74)=f at *
       have I:=Y.trans (S.mono Y.size)
       have b0:=S.size
       refine Canon.tr_end (fun b9 d=>(I.block b9 (by rcases d with d | d <;> omega)).trans (H.block b9 (by rcases d with d | d <;> omega)).symm) (Canon.tr_seg ?_)
       simp only [zmC,zmN,zgZ,zgS]
       go_wp2_with fail
       refine Canon.tr_to (Canon.tr_one ?_)
       simp only [zgZ,zgS]
       go_wp2_with fail
       have G:Below f.heap.size f (f.alloc (.cells #[.int .i64 0,.slice none 0 0,.slice none 0 0,.slice none 0 0] 67)):=(Below.refl f.heap.size f).alloc zl _
       have Z:Bk (f.alloc (.cells #[.int .i64 0,.slice none 0 0,.slice none 0 0,.slice none 0 0] 67)) f.heap.size 67 [.int .i64 0,.slice none 0 0,.slice none 0 0,.slice none 0 0]:=Bk.new f _ _
       generalize f.alloc (.cells #[.int .i64 0,.slice none 0 0,.slice none 0 0,.slice none 0 0] 67)=D at *
       have a5:=I.trans (G.mono I.size)
       have dq:=G.size
       refine Canon.tr_end (fun b9 d=>(a5.block b9 (by rcases d with d | d <;> omega)).trans (H.block b9 (by rcases d with d | d <;> omega)).symm) (Canon.tr_one ?_)
       simp only [zgZ,zgS]
       have U:Bk D s.heap.size _ _:=km.below G km.lt
       have t:Bk D f.heap.size _ _:=Z
       have V:=own_base (own_below X (S.trans (G.mono b0)) zl) (show F.heap.size<=C.heap.size by omega)
       have s0:D.cell? ⟨f.heap.size,0,none⟩=some (.int .i64 0):=t.cell 0
       have s1:D.cell? ⟨f.heap.size,1,none⟩=some (.slice none 0 0):=t.cell 1
       have s2:D.cell? ⟨f.heap.size,2,none⟩=some (.slice none 0 0):=t.cell 2
       have s3:D.cell? ⟨f.heap.size,3,none⟩=some (.slice none 0 0):=t.cell 3
       have sf:=t.frozen
       have z:JoinLaid F K M (.slice O T.length W) (.pointer (some ⟨f.heap.size,0,none⟩)) ((((D.setCell ⟨f.heap.size,0,none⟩ (.int .i64 (M:Nat))).setCell ⟨f.heap.size,1,none⟩ (.slice O T.length W)).setCell ⟨f.heap.size,2,none⟩ (.slice (some ⟨s.heap.size,0,none⟩) M M)).setCell ⟨f.heap.size,3,none⟩ (.slice A2 K.length E)):=laid_put U t V a5 (by omega) (by omega)
       have a6:Below F.heap.size F ((((D.setCell ⟨f.heap.size,0,none⟩ (.int .i64 (M:Nat))).setCell ⟨f.heap.size,1,none⟩ (.slice O T.length W)).setCell ⟨f.heap.size,2,none⟩ (.slice (some ⟨s.heap.size,0,none⟩) M M)).setCell ⟨f.heap.size,3,none⟩ (.slice A2 K.length E)):=z.below
       obtain ⟨dc,db,dd,c5,c4,c6,Q⟩:=zz7 km Z X U t V z;clear km Z X U t V z
       go_wp2_with fail
       refine Canon.tr_end (fun b9 d=>(a6.block b9 (by rcases d with d | d <;> omega)).trans (H.block b9 (by rcases d with d | d <;> omega)).symm) (Canon.tr_fin (by rfl) (zF ⟨.inl ⟨_,rfl,.inl rfl,by rw [v0];rfl⟩,zF ⟨.inl ⟨_,rfl,.inl rfl,by rw [v0];rfl⟩,zF ⟨.inl ⟨_,rfl,.inr rfl,by rw [v3];rfl⟩,fun _ h=>by cases h⟩⟩⟩) ?_)
       go_wp2_with fail
       go_meet
       exact Q.out
      ·simp only [zgZ,zgS]
       go_wp2_with fail
       have S:Below s.heap.size s (s.alloc (.cells #[.int .i64 0,.slice none 0 0,.slice none 0 0,.slice none 0 0] 67)):=(Below.refl s.heap.size s).alloc zl _
       have Z:Bk (s.alloc (.cells #[.int .i64 0,.slice none 0 0,.slice none 0 0,.slice none 0 0] 67)) s.heap.size 67 [.int .i64 0,.slice none 0 0,.slice none 0 0,.slice none 0 0]:=Bk.new s _ _
       generalize s.alloc (.cells #[.int .i64 0,.slice none 0 0,.slice none 0 0,.slice none 0 0] 67)=f at *
       have I:=Y.trans (S.mono Y.size)
       have b0:=S.size
       refine Canon.tr_end (fun b9 d=>(I.block b9 (by rcases d with d | d <;> omega)).trans (H.block b9 (by rcases d with d | d <;> omega)).symm) (Canon.tr_one ?_)
       simp only [zgZ,zgS]
       go_wp2_with fail
       have G:Below f.heap.size f (f.alloc (.cells (flat3 (List.replicate M ((0:Int),(0:Int),(0:Int)))).toArray 74)):=(Below.refl f.heap.size f).alloc zl _
       have km:Bk (f.alloc (.cells (flat3 (List.replicate M ((0:Int),(0:Int),(0:Int)))).toArray 74)) f.heap.size 74 (flat3 (List.replicate M ((0:Int),(0:Int),(0:Int)))):=Bk.new f _ _
       generalize f.alloc (.cells (flat3 (List.replicate M ((0:Int),(0:Int),(0:Int)))).toArray 74)=D at *
       have a5:=I.trans (G.mono I.size)
       have dq:=G.size
       skip
       refine Canon.tr_end (fun b9 d=>(a5.block b9 (by rcases d with d | d <;> omega)).trans (H.block b9 (by rcases d with d | d <;> omega)).symm) (Canon.tr_seg ?_)
       simp only [zmC,zmN,zgZ,zgS]
       go_wp2_with fail
       refine Canon.tr_to (Canon.tr_one ?_)
       simp only [zgZ,zgS]
       have U:Bk D f.heap.size _ _:=km
       have t:Bk D s.heap.size _ _:=Z.below G Z.lt
       have V:=own_base (own_below X (S.trans (G.mono b0)) zl) (show F.heap.size<=C.heap.size by omega)
       have s0:D.cell? ⟨s.heap.size,0,none⟩=some (.int .i64 0):=t.cell 0
       have s1:D.cell? ⟨s.heap.size,1,none⟩=some (.slice none 0 0):=t.cell 1
       have s2:D.cell? ⟨s.heap.size,2,none⟩=some (.slice none 0 0):=t.cell 2
       have s3:D.cell? ⟨s.heap.size,3,none⟩=some (.slice none 0 0):=t.cell 3
       have sf:=t.frozen
       have z:JoinLaid F K M (.slice O T.length W) (.pointer (some ⟨s.heap.size,0,none⟩)) ((((D.setCell ⟨s.heap.size,0,none⟩ (.int .i64 (M:Nat))).setCell ⟨s.heap.size,1,none⟩ (.slice O T.length W)).setCell ⟨s.heap.size,2,none⟩ (.slice (some ⟨f.heap.size,0,none⟩) M M)).setCell ⟨s.heap.size,3,none⟩ (.slice A2 K.length E)):=laid_put U t V a5 (by omega) (by omega)
       have a6:Below F.heap.size F ((((D.setCell ⟨s.heap.size,0,none⟩ (.int .i64 (M:Nat))).setCell ⟨s.heap.size,1,none⟩ (.slice O T.length W)).setCell ⟨s.heap.size,2,none⟩ (.slice (some ⟨f.heap.size,0,none⟩) M M)).setCell ⟨s.heap.size,3,none⟩ (.slice A2 K.length E)):=z.below
       obtain ⟨dc,db,dd,c5,c4,c6,Q⟩:=zz7 km Z X U t V z;clear km Z X U t V z
       go_wp2_with fail
       refine Canon.tr_end (fun b9 d=>(a6.block b9 (by rcases d with d | d <;> omega)).trans (H.block b9 (by rcases d with d | d <;> omega)).symm) (Canon.tr_fin (by rfl) (zF ⟨.inl ⟨_,rfl,.inl rfl,by rw [v0];rfl⟩,zF ⟨.inl ⟨_,rfl,.inl rfl,by rw [v0];rfl⟩,zF ⟨.inl ⟨_,rfl,.inr rfl,by rw [v3];rfl⟩,fun _ h=>by cases h⟩⟩⟩) ?_)
       go_wp2_with fail
       go_meet
       exact Q.out
     ·simp only [zgZ,zgS]
      go_wp2_with fail
      have bo:Below C.heap.size C (C.alloc (.cells #[.int .i64 0,.slice none 0 0,.slice none 0 0,.slice none 0 0] 67)):=(Below.refl C.heap.size C).alloc zl _
      have Z:Bk (C.alloc (.cells #[.int .i64 0,.slice none 0 0,.slice none 0 0,.slice none 0 0] 67)) C.heap.size 67 [.int .i64 0,.slice none 0 0,.slice none 0 0,.slice none 0 0]:=Bk.new C _ _
      generalize C.alloc (.cells #[.int .i64 0,.slice none 0 0,.slice none 0 0,.slice none 0 0] 67)=s at *
      have Y:=H.trans (bo.mono H.size)
      have jk:=bo.size
      refine Canon.tr_end (fun b9 d=>(Y.block b9 (by rcases d with d | d <;> omega)).trans (H.block b9 (by rcases d with d | d <;> omega)).symm) (Canon.tr_alt ?_ (Canon.tr_one ?_))
      ·simp only [zgZ,zgS]
       go_wp2_with fail
       have S:Below s.heap.size s (s.alloc (.cells (flat3 (List.replicate M ((0:Int),(0:Int),(0:Int)))).toArray 74)):=(Below.refl s.heap.size s).alloc zl _
       have km:Bk (s.alloc (.cells (flat3 (List.replicate M ((0:Int),(0:Int),(0:Int)))).toArray 74)) s.heap.size 74 (flat3 (List.replicate M ((0:Int),(0:Int),(0:Int)))):=Bk.new s _ _
       generalize s.alloc (.cells (flat3 (List.replicate M ((0:Int),(0:Int),(0:Int)))).toArray 74)=f at *
       have I:=Y.trans (S.mono Y.size)
       have b0:=S.size
       refine Canon.tr_end (fun b9 d=>(I.block b9 (by rcases d with d | d <;> omega)).trans (H.block b9 (by rcases d with d | d <;> omega)).symm) (Canon.tr_one ?_)
       simp only [zgZ,zgS]
       have cb:=c3.out.below keeps_int (I.mono cj)
       obtain ⟨kn,kc⟩:=sl_cells1 cb
       have am:f.ownsRow f.heap.size 3 1 (.slice none 0 0) 0 []:=World.ownsRow_nil _ _ _ _
       refine wpList_append_opt rfl (.const (.slice none 0 0)) (.tmp 135) 28 rfl f.heap.size Tryz.underlying28 info_int rfl (by decide) _ 0 [] rfl am Ak K.length a0 (ivals K) rfl (by unfold ivals;simp) kn kc (ivals_ones K) (by omega) (by decide) zl ?_
       intro v' D X b5 G _
       rw [Nat.zero_add,List.nil_append] at X
       obtain ⟨A2,E,rfl,bx⟩:=own_form X
       clear cb kn kc am b5
       have a5:=I.trans (G.mono I.size)
       have dq:=G.size
       go_wp2_with fail
       refine Canon.tr_end (fun b9 d=>(a5.block b9 (by rcases d with d | d <;> omega)).trans (H.block b9 (by rcases d with d | d <;> omega)).symm) (Canon.tr_seg ?_)
       simp only [zmC,zmN,zgZ,zgS]
       go_wp2_with fail
       refine Canon.tr_to (Canon.tr_one ?_)
       simp only [zgZ,zgS]
       have U:Bk D s.heap.size _ _:=km.below G km.lt
       have t:Bk D C.heap.size _ _:=Z.below (S.trans (G.mono b0)) Z.lt
       have V:=own_base (X) (show F.heap.size<=f.heap.size by omega)
       have s0:D.cell? ⟨C.heap.size,0,none⟩=some (.int .i64 0):=t.cell 0
       have s1:D.cell? ⟨C.heap.size,1,none⟩=some (.slice none 0 0):=t.cell 1
       have s2:D.cell? ⟨C.heap.size,2,none⟩=some (.slice none 0 0):=t.cell 2
       have s3:D.cell? ⟨C.heap.size,3,none⟩=some (.slice none 0 0):=t.cell 3
       have sf:=t.frozen
       have z:JoinLaid F K M (.slice O T.length W) (.pointer (some ⟨C.heap.size,0,none⟩)) ((((D.setCell ⟨C.heap.size,0,none⟩ (.int .i64 (M:Nat))).setCell ⟨C.heap.size,1,none⟩ (.slice O T.length W)).setCell ⟨C.heap.size,2,none⟩ (.slice (some ⟨s.heap.size,0,none⟩) M M)).setCell ⟨C.heap.size,3,none⟩ (.slice A2 K.length E)):=laid_put U t V a5 (by omega) (by omega)
       have a6:Below F.heap.size F ((((D.setCell ⟨C.heap.size,0,none⟩ (.int .i64 (M:Nat))).setCell ⟨C.heap.size,1,none⟩ (.slice O T.length W)).setCell ⟨C.heap.size,2,none⟩ (.slice (some ⟨s.heap.size,0,none⟩) M M)).setCell ⟨C.heap.size,3,none⟩ (.slice A2 K.length E)):=z.below
       obtain ⟨dc,db,dd,c5,c4,c6,Q⟩:=zz7 km Z X U t V z;clear km Z X U t V z
       go_wp2_with fail
       refine Canon.tr_end (fun b9 d=>(a6.block b9 (by rcases d with d | d <;> omega)).trans (H.block b9 (by rcases d with d | d <;> omega)).symm) (Canon.tr_fin (by rfl) (zF ⟨.inl ⟨_,rfl,.inl rfl,by rw [v0];rfl⟩,zF ⟨.inl ⟨_,rfl,.inl rfl,by rw [v0];rfl⟩,zF ⟨.inl ⟨_,rfl,.inr rfl,by rw [v3];rfl⟩,fun _ h=>by cases h⟩⟩⟩) ?_)
       go_wp2_with fail
       go_meet
       exact Q.out
      ·simp only [zgZ,zgS]
       have ca:=c3.out.below keeps_int (Y.mono cj)
       obtain ⟨kn,kc⟩:=sl_cells1 ca
       have am:s.ownsRow s.heap.size 3 1 (.slice none 0 0) 0 []:=World.ownsRow_nil _ _ _ _
       refine wpList_append_opt rfl (.const (.slice none 0 0)) (.tmp 135) 28 rfl s.heap.size Tryz.underlying28 info_int rfl (by decide) _ 0 [] rfl am Ak K.length a0 (ivals K) rfl (by unfold ivals;simp) kn kc (ivals_ones K) (by omega) (by decide) zl ?_
       intro v' f X b5 S _
       rw [Nat.zero_add,List.nil_append] at X
       obtain ⟨A2,E,rfl,bx⟩:=own_form X
       clear ca kn kc am b5
       have I:=Y.trans (S.mono Y.size)
       have b0:=S.size
       go_wp2_with fail
       refine Canon.tr_end (fun b9 d=>(I.block b9 (by rcases d with d | d <;> omega)).trans (H.block b9 (by rcases d with d | d <;> omega)).symm) (Canon.tr_one ?_)
       simp only [zgZ,zgS]
       go_wp2_with fail
       have G:Below f.heap.size f (f.alloc (.cells (flat3 (List.replicate M ((0:Int),(0:Int),(0:Int)))).toArray 74)):=(Below.refl f.heap.size f).alloc zl _
       have km:Bk (f.alloc (.cells (flat3 (List.replicate M ((0:Int),(0:Int),(0:Int)))).toArray 74)) f.heap.size 74 (flat3 (List.replicate M ((0:Int),(0:Int),(0:Int)))):=Bk.new f _ _
       generalize f.alloc (.cells (flat3 (List.replicate M ((0:Int),(0:Int),(0:Int)))).toArray 74)=D at *
       have a5:=I.trans (G.mono I.size)
       have dq:=G.size
       skip
       refine Canon.tr_end (fun b9 d=>(a5.block b9 (by rcases d with d | d <;> omega)).trans (H.block b9 (by rcases d with d | d <;> omega)).symm) (Canon.tr_seg ?_)
       simp only [zmC,zmN,zgZ,zgS]
       go_wp2_with fail
       refine Canon.tr_to (Canon.tr_one ?_)
       simp only [zgZ,zgS]
       have U:Bk D f.heap.size _ _:=km
       have t:Bk D C.heap.size _ _:=Z.below (S.trans (G.mono b0)) Z.lt
       have V:=own_base (own_below X G zl) (show F.heap.size<=s.heap.size by omega)
       have s0:D.cell? ⟨C.heap.size,0,none⟩=some (.int .i64 0):=t.cell 0
       have s1:D.cell? ⟨C.heap.size,1,none⟩=some (.slice none 0 0):=t.cell 1
       have s2:D.cell? ⟨C.heap.size,2,none⟩=some (.slice none 0 0):=t.cell 2
       have s3:D.cell? ⟨C.heap.size,3,none⟩=some (.slice none 0 0):=t.cell 3
       have sf:=t.frozen
       have z:JoinLaid F K M (.slice O T.length W) (.pointer (some ⟨C.heap.size,0,none⟩)) ((((D.setCell ⟨C.heap.size,0,none⟩ (.int .i64 (M:Nat))).setCell ⟨C.heap.size,1,none⟩ (.slice O T.length W)).setCell ⟨C.heap.size,2,none⟩ (.slice (some ⟨f.heap.size,0,none⟩) M M)).setCell ⟨C.heap.size,3,none⟩ (.slice A2 K.length E)):=laid_put U t V a5 (by omega) (by omega)
       have a6:Below F.heap.size F ((((D.setCell ⟨C.heap.size,0,none⟩ (.int .i64 (M:Nat))).setCell ⟨C.heap.size,1,none⟩ (.slice O T.length W)).setCell ⟨C.heap.size,2,none⟩ (.slice (some ⟨f.heap.size,0,none⟩) M M)).setCell ⟨C.heap.size,3,none⟩ (.slice A2 K.length E)):=z.below
       obtain ⟨dc,db,dd,c5,c4,c6,Q⟩:=zz7 km Z X U t V z;clear km Z X U t V z
       go_wp2_with fail
       refine Canon.tr_end (fun b9 d=>(a6.block b9 (by rcases d with d | d <;> omega)).trans (H.block b9 (by rcases d with d | d <;> omega)).symm) (Canon.tr_fin (by rfl) (zF ⟨.inl ⟨_,rfl,.inl rfl,by rw [v0];rfl⟩,zF ⟨.inl ⟨_,rfl,.inl rfl,by rw [v0];rfl⟩,zF ⟨.inl ⟨_,rfl,.inr rfl,by rw [v3];rfl⟩,fun _ h=>by cases h⟩⟩⟩) ?_)
       go_wp2_with fail
       go_meet
       exact Q.out
    case rest =>
     obtain ⟨bq,gm,A2,E,rfl,ns,gc,g3,g5,j6,kj⟩:=hcut
     have iq:Sl 1 RInt F F.heap.size (.slice Ao no co) (sewOf (labP J) N.toNat):=by
      obtain ⟨_,_,_,d⟩:=cp.out rfl F fun b _ h2=>e3.block b h2
      rw [dx.out] at d
      exact d
     have ir:no=N.toNat:=by
      rw [<- dx.out]
      unfold sewOf
      simp
     have fw:P.length=N.toNat:=by
      have d:=bw.out
      unfold mayB at d
      rw [Bool.and_eq_true] at d
      have:=(of_decide_eq_true d.1).1
      omega
     have jb:∀ k (hk:k<(sewOf (labP J) N.toNat).length),∃ m:Nat,(sewOf (labP J) N.toNat)[k]=(m:Int)/\m<M:=fun k hk=>by
      have d:=sewOf_rng ae.out (J:=J) (by rw [<- ih.out];exact fun e he=>of_decide_eq_true (d9.out.1 e he)) k hk
      rw [ii.out] at d
      exact d
     have ge:=jpt_len (sewOf (labP J) N.toNat) P M
     have gl:=dx.out
     have g6:Bk wc gm 74 (flat3 (jpt (sewOf (labP J) N.toNat) P M 0)):=g5
     have ey:=fun k=>(show jpt (sewOf (labP J) N.toNat) P M (k+1)=(jpt (sewOf (labP J) N.toNat) P M k).set ((sewOf (labP J) N.toNat).getD ((sewOf (labP J) N.toNat).length - 1 - k) 0).toNat (P.getD ((sewOf (labP J) N.toNat).length - 1 - k) (0,0,0)) from rfl)
     generalize iw:sewOf (labP J) N.toNat=SO at *
     have ow:w.heap.size<F.heap.size:=by omega
     have nv:no<=5000:=by omega
     obtain ⟨i2,n4,jw,jl,jz,cq,ej,i3,fm,jn,i1,fd⟩:=zz12 g3 g5 j6 iq jb ge gl g6 ey iw fw ir;clear g3 g5 j6 iq jb ge gl g6 ey iw fw ir
     go_wp2_with fail
     go_loopw [23] (fun iv wr=>∃ k:Nat,k<=no/\iv=.int .i64 ((no:Int) - 1 - (k:Int))/\Bk wr bq 67 [.int .i64 (M:Nat),.slice O T.length W,.slice (some ⟨gm,0,none⟩) M M,.slice A2 K.length E]/\Bk wr gm 74 (flat3 (jpt SO P M k))/\wr.ownsRow F.heap.size 3 1 (.slice A2 K.length E) K.length (ivals K)/\Below F.heap.size F wr) (fun iv _=>(intOf iv+1).toNat)
     case atStart=>exact ⟨0,by omega,by simp,i2.out,i3.out,jw.out,kj⟩
     case round =>
      obtain ⟨k,hk,rfl,av,bt,cd,aw⟩:=hrel
      obtain ⟨wx,lu⟩:∃ wx,wx=wr:=⟨_,rfl⟩
      subst lu
      have pd:=aw.size
      by_cases j7:k<no
      ·obtain ⟨v,hv⟩:∃ v:Nat,v=no - 1 - k:=⟨_,rfl⟩
       have gz:(no:Int) - 1 - (k:Int)=(v:Int):=by omega
       rw [gz]
       have h0:v<SO.length:=by rw [ej.out];omega
       have jd:v<P.length:=by rw [i1.out,<- fd.out];omega
       obtain ⟨mm,ev,ll⟩:=jz.out v h0
       have gw:=fm.out k
       rw [ej.out,<- hv,List.getD_eq_getElem?_getD,zG h0,List.getD_eq_getElem?_getD,zG jd,Option.getD_some,Option.getD_some,ev,Int.toNat_natCast] at gw
       obtain ⟨b,o,fu,hb,o1⟩:=(jl.out.below keeps_int aw).int_at h0
       subst fu
       rw [ev] at o1
       obtain ⟨bp,op,c9,nq,p1,p2,p3⟩:=(jm.out.below keeps_tri (aw.mono cj)).tri_at jd
       subst c9
       generalize P[v]=pt at *
       obtain ⟨x0,x1,x2⟩:=pt
       simp only [] at p1 p2 p3
       have q2:wx.cell? ⟨bq,2,none⟩=some (.slice (some ⟨gm,0,none⟩) M M):=av.cell 2
       have pe:wx.drew.cell? ⟨bq,2,none⟩=some (.slice (some ⟨gm,0,none⟩) M M):=q2
       have f2:=(aw.cell (p:=⟨w.heap.size,2,none⟩) (by show w.heap.size<_;omega)).trans v2
       have oj:wx.drew.cell? ⟨w.heap.size,2,none⟩=some (.slice (some ⟨bp,op,none⟩) P.length ay):=f2
       have be:=cq.out k
       have dh:∀ m,m<3 * M->wx.cell? ⟨gm,m,none⟩=some (.int .i64 (Mesh.vt (jpt SO P M k) m)):=fun m hm=>by
        rw [bt.cell m,flat3_some (by rw [be];exact hm)]
       have oe:=dh (mm * 3) (by omega)
       have og:=dh (mm * 3+1) (by omega)
       have oh:=dh (mm * 3+2) (by omega)
       have gf:=bt.frozen
       have p8:v<no:=by omega
       obtain ⟨k7,dt,du,ei,n5,n8,fi,l4,nc⟩:=zz9 gw av bt cd dh ev be hv gz;clear gw av bt cd dh ev be hv gz
       go_wp2_with fail
       refine Canon.wp_region_text mixed (by kernel_rfl) ?_
       go_wp2_with fail
       refine Canon.chk (by rfl) ?_
       go_wp2_with fail
       all_goals first | (exfalso;omega) | skip
       have dj:gm≠bq:=bk_apart du.out dt.out
       have k0:=du.out
       have k1:=k0.set (mm * 3) (.int .i64 x0)
       have k2:=k1.set (mm * 3+1) (.int .i64 x1)
       have k3:=k2.set (mm * 3+2) (.int .i64 x2)
       have kk:=own_point (i:=mm * 3+2) (u:=.int .i64 x2) (own_point (i:=mm * 3+1) (u:=.int .i64 x1) (own_point (i:=mm * 3) (u:=.int .i64 x0) ei.out k0) k1) k2
       have Z:=((dt.out.far (p:=⟨gm,mm * 3,none⟩) (fun h=>dj h.symm) (.int .i64 x0)).far (p:=⟨gm,mm * 3+1,none⟩) (fun h=>dj h.symm) (.int .i64 x1)).far (p:=⟨gm,mm * 3+2,none⟩) (fun h=>dj h.symm) (.int .i64 x2)
       have kw:=((aw.setCell (p:=⟨gm,mm * 3,none⟩) gc (.int .i64 x0)).setCell (p:=⟨gm,mm * 3+1,none⟩) gc (.int .i64 x1)).setCell (p:=⟨gm,mm * 3+2,none⟩) gc (.int .i64 x2)
       rw [flat3_put (x0,x1,x2) (jpt SO P M k) mm (by rw [fi.out];exact ll),<- k7.out] at k3
       have p7:=l4.out
       exact ⟨⟨k+1,by omega,congrArg (Value.int .i64) (by omega),by first | exact Z | exact Z.drew,by first | exact k3 | exact k3.drew,by first | exact kk | exact kk.drew,by first | exact kw | exact kw.drew⟩,by first | (simp [intOf];done) | (simp [intOf];omega)⟩
      ·obtain rfl:k=no:=by omega
       rw [show (k:Int) - 1 - (k:Int) = -1 by omega]
       have il:=c8.trans (aw.mono c8.size)
       have az:=bk.out.below il (by omega)
       have r0:wx.cell? ⟨w.heap.size+1,0,none⟩=some (.int .i64 0):=az.cell 0
       have r1:wx.cell? ⟨w.heap.size+1,1,none⟩=some (.slice none 0 0):=az.cell 1
       have r2:wx.cell? ⟨w.heap.size+1,2,none⟩=some (.slice none 0 0):=az.cell 2
       have r3:wx.cell? ⟨w.heap.size+1,3,none⟩=some (.slice none 0 0):=az.cell 3
       have rf:=az.frozen
       have q0:wx.cell? ⟨bq,0,none⟩=some (.int .i64 (M:Nat)):=av.cell 0
       have q1:wx.cell? ⟨bq,1,none⟩=some (.slice O T.length W):=av.cell 1
       have q2:wx.cell? ⟨bq,2,none⟩=some (.slice (some ⟨gm,0,none⟩) M M):=av.cell 2
       have q3:wx.cell? ⟨bq,3,none⟩=some (.slice A2 K.length E):=av.cell 3
       have j5:=(((az.set 0 (.int .i64 (M:Nat))).set 1 (.slice O T.length W)).set 2 (.slice (some ⟨gm,0,none⟩) M M)).set 3 (.slice A2 K.length E)
       have iz:=((((dg.trans (il.mono (by omega))).setCell (p:=⟨w.heap.size+1,0,none⟩) (by show w.heap.size<=w.heap.size+1;omega) (.int .i64 (M:Nat))).setCell (p:=⟨w.heap.size+1,1,none⟩) (by show w.heap.size<=w.heap.size+1;omega) (.slice O T.length W)).setCell (p:=⟨w.heap.size+1,2,none⟩) (by show w.heap.size<=w.heap.size+1;omega) (.slice (some ⟨gm,0,none⟩) M M)).setCell (p:=⟨w.heap.size+1,3,none⟩) (by show w.heap.size<=w.heap.size+1;omega) (.slice A2 K.length E)
       have gy:wx.heap.size<=((((wx.setCell ⟨w.heap.size+1,0,none⟩ (.int .i64 (M:Nat))).setCell ⟨w.heap.size+1,1,none⟩ (.slice O T.length W)).setCell ⟨w.heap.size+1,2,none⟩ (.slice (some ⟨gm,0,none⟩) M M)).setCell ⟨w.heap.size+1,3,none⟩ (.slice A2 K.length E)).heap.size:=by simp
       have cx:∀ b,w.heap.size+2<=b->((((wx.setCell ⟨w.heap.size+1,0,none⟩ (.int .i64 (M:Nat))).setCell ⟨w.heap.size+1,1,none⟩ (.slice O T.length W)).setCell ⟨w.heap.size+1,2,none⟩ (.slice (some ⟨gm,0,none⟩) M M)).setCell ⟨w.heap.size+1,3,none⟩ (.slice A2 K.length E)).heap[b]? = wx.heap[b]?:=fun b h1 =>
        (Below.heap_setCell _ ⟨w.heap.size+1,3,none⟩ _ b (by show b≠w.heap.size+1;omega)).trans ((Below.heap_setCell _ ⟨w.heap.size+1,2,none⟩ _ b (by show b≠w.heap.size+1;omega)).trans ((Below.heap_setCell _ ⟨w.heap.size+1,1,none⟩ _ b (by show b≠w.heap.size+1;omega)).trans (Below.heap_setCell _ ⟨w.heap.size+1,0,none⟩ _ b (by show b≠w.heap.size+1;omega))))
       generalize lr:(((wx.setCell ⟨w.heap.size+1,0,none⟩ (.int .i64 (M:Nat))).setCell ⟨w.heap.size+1,1,none⟩ (.slice O T.length W)).setCell ⟨w.heap.size+1,2,none⟩ (.slice (some ⟨gm,0,none⟩) M M)).setCell ⟨w.heap.size+1,3,none⟩ (.slice A2 K.length E)=wF at *
       have gb:∀ wz:World,(∀ b,w.heap.size<=b->b<wF.heap.size->wz.heap[b]? = wF.heap[b]?)->JoinMade wz N T P K (i:Int) (j:Int) turn (.agg #[.int .i64 (M:Nat),.slice O T.length W,.slice (some ⟨gm,0,none⟩) M M,.slice A2 K.length E]):=fun wz d=>by
        have h8:∀ b,w0.heap.size<=b->b<wx.heap.size->wz.heap[b]? = wx.heap[b]?:=fun b k1 k2=>(d b (by omega) (by omega)).trans (cx b (by omega))
        obtain ⟨xs,hx,g1,_⟩:=cp.out rfl wz fun b k1 k2=>(h8 b (by omega) (by omega)).trans ((aw.block b (by omega)).trans (e3.block b k2))
        injection hx with hx
        have hx:=congrArg Array.toList hx
        simp only [List.cons.injEq] at hx
        obtain ⟨_,cn,_⟩:=hx
        subst cn
        have li:=bt.keep (h8 gm (by omega) bt.lt)
        have hS:=Sl.of_block (sz:=3) (R:=RTri) (l:=jpt SO P M k) (cap:=M) li (by rw [cq.out];exact zl) (fun i a hi=>⟨by rw [flat3_len];have:=(List.getElem?_eq_some_iff.1 hi).1;omega,flat3_at _ i a hi⟩)
        rw [cq.out] at hS
        have lc:=own_moved cd zl fun b k1 k2=>h8 b (by omega) k2
        unfold JoinMade
        rw [Int.toNat_natCast,Int.toNat_natCast,ds.out,js.out,jt.out,ih.out,ii.out,jn.out,<- fd.out]
        refine ⟨_,_,_,rfl,g1,hS,Sl.of_own lc fun i a hi=>?_⟩
        unfold RInt
        have j8:=(List.getElem?_eq_some_iff.1 hi).1
        unfold ivals
        rw [Nat.mul_one,List.drop_eq_getElem_cons (by simpa using j8)]
        simp only [List.take_succ_cons,List.take_zero,List.getElem_map]
        rw [zG j8] at hi
        rw [Option.some.inj hi]
       obtain ⟨dt,du,ei,mq,jv,jo,ms,l3,i7⟩:=zz9 av bt cd az j5 iz gy cx gb;clear av bt cd az j5 iz gy cx gb
       go_wp2_with fail
       all_goals first | (exfalso;omega) | skip
       try rw [lr]
       refine ret_ct rfl rfl jv.out Tryz.underlying67 rfl (by kernel_rfl) rfl ?_
       exact ⟨⟨_,0,rfl,i4.out,fun d=>absurd rfl d,fun _=>i7.out⟩,jo.out⟩
end Go.Proofs.YtpbdcppaiafbgaaGreat
