/- Walks: the numbers of corners behind a cut along a loop, by the document (ref45's Open). -/
import Derived.Test.YtpbdcppaiafbgaaGreatNQ
import Derived.Test.YtpbdcppaiafbgaaGreatOQ
set_option maxRecDepth 100000
set_option maxHeartbeats 8000000
namespace Go.Words
open Go Go.RowKit Go.Mesh
theorem map_range_set {α:Type} {F G:Nat->α} {n j:Nat} {u:α} (h1:G j=u) (h2:∀ i,i≠j->G i=F i):((List.range n).map F).set j u=(List.range n).map G:=by
 refine List.ext_getElem? fun i=>?_
 rw [List.getElem?_set,List.getElem?_map,List.getElem?_map]
 by_cases a:i<n
 ·rw [List.getElem?_range a]
  by_cases h:j=i
  ·subst h
   rw [if_pos rfl,if_pos (by rw [List.length_map,List.length_range];exact a),<- h1];rfl
  ·rw [if_neg h]
   show some (F i)=some (G i)
   rw [h2 i (fun e=>h e.symm)]
 ·have b:(List.range n)[i]? = none:=List.getElem?_eq_none (by rw [List.length_range];omega)
  rw [b]
  by_cases h:j=i
  ·rw [if_pos h,if_neg (by rw [List.length_map,List.length_range];omega)];rfl
  ·rw [if_neg h];rfl
def yvals (n:Nat) (f:Nat->Bool):List Value:=(List.range n).map fun j=>.bool (f j)
theorem yvals_at {n:Nat} {f:Nat->Bool} {j:Nat} (h:j<n):(yvals n f)[j]? = some (.bool (f j)):=by
 unfold yvals
 rw [List.getElem?_map,List.getElem?_range h];rfl
theorem yvals_set {n:Nat} (f:Nat->Bool) (j:Nat) (b:Bool):(yvals n f).set j (.bool b)=yvals n fun i=>if i=j then b else f i :=
 map_range_set (by simp) fun i h=>by simp [h]
def heads (n k:Nat) (gs:Nat->Nat):List Value:=(List.range n).map fun i=>if i<k then .slice (some ⟨gs i,0,none⟩) n n else .slice none 0 0
theorem heads_at {n k i:Nat} {gs:Nat->Nat} (hi:i<n) (hk:i<k):(heads n k gs)[i]? = some (.slice (some ⟨gs i,0,none⟩) n n):=by
 unfold heads
 rw [List.getElem?_map,List.getElem?_range hi]
 exact congrArg some (if_pos hk)
theorem heads_none {n k i:Nat} {gs:Nat->Nat} (hi:i<n) (hk:¬ i<k):(heads n k gs)[i]? = some (.slice none 0 0):=by
 unfold heads
 rw [List.getElem?_map,List.getElem?_range hi]
 exact congrArg some (if_neg hk)
theorem heads_set {n k:Nat} (gs:Nat->Nat) (g:Nat) (_:k<n):(heads n k gs).set k (.slice (some ⟨g,0,none⟩) n n)=heads n (k+1) fun i=>if i=k then g else gs i :=
 map_range_set (by simp) fun i h=>by
  by_cases a:i<k
  ·simp only [if_pos a,if_pos (show i<k+1 by omega),if_neg h]
  ·simp only [if_neg a,if_neg (show ¬ i<k+1 by omega)]
end Go.Words
namespace Go.Proofs.YtpbdcppaiafbgaaGreat
open Go Go.RowKit Go.Words Go.Mesh
structure Mat (w : World) (base n k gm : Nat) (gs : Nat -> Nat) (f : Nat -> Nat -> Bool) : Prop where
 hdr:Bk w gm 130 (heads n k gs)
 rows:∀ i,i<k->Bk w (gs i) 4 (yvals n (f i))
 one:∀ i j,i<k->j<k->gs i=gs j->i=j
 lo:base<=gm/\∀ i,i<k->gm<gs i
theorem Mat.below {w w':World} {base n k gm:Nat} {gs:Nat->Nat} {f:Nat->Nat->Bool} (h:Mat w base n k gm gs f) {B:Nat} (hb:Below B w w') (hB:w.heap.size<=B):Mat w' base n k gm gs f :=
 ⟨h.hdr.below hb (Nat.lt_of_lt_of_le h.hdr.lt hB),fun i hi=>(h.rows i hi).below hb (Nat.lt_of_lt_of_le (h.rows i hi).lt hB),h.one,h.lo⟩
theorem Mat.drew {w:World} {base n k gm:Nat} {gs:Nat->Nat} {f:Nat->Nat->Bool} (h:Mat w base n k gm gs f):Mat w.drew base n k gm gs f:=⟨h.hdr.drew,fun i hi=>(h.rows i hi).drew,h.one,h.lo⟩
theorem Mat.row {w:World} {base n k gm:Nat} {gs:Nat->Nat} {f:Nat->Nat->Bool} (h:Mat w base n k gm gs f) (hk:k<n) (hf:∀ j,f k j=false) :
  Mat ((w.alloc (.cells (yvals n fun _=>false).toArray 4)).setCell ⟨gm,k,none⟩ (.slice (some ⟨w.heap.size,0,none⟩) n n)) base n (k+1) gm (fun i=>if i=k then w.heap.size else gs i) f:=by
 have g:=h.hdr.lt
 have b:∀ i,i<k->gs i≠w.heap.size:=fun i hi e=>by have:=(h.rows i hi).lt;omega
 refine ⟨?_,fun i hi=>?_,fun i j hi hj e=>?_,h.lo.1,fun i hi=>?_⟩
 ·rw [<- heads_set gs w.heap.size hk]
  exact (h.hdr.alloc _).set k _
 ·by_cases a:i=k
  ·subst a
   simp only [if_true]
   have e:f i=fun _=>false:=funext hf
   rw [e]
   exact (Bk.new w _ _).far (p:=⟨gm,i,none⟩) (by show w.heap.size≠gm;omega) _
  ·simp only [if_neg a]
   have:=h.lo.2 i (by omega)
   exact ((h.rows i (by omega)).alloc _).far (p:=⟨gm,k,none⟩) (by show gs i≠gm;omega) _
 ·by_cases c:i=k <;> by_cases d:j=k
  ·omega
  ·simp only [if_pos c,if_neg d] at e
   exact absurd e.symm (b j (by omega))
  ·simp only [if_neg c,if_pos d] at e
   exact absurd e (b i (by omega))
  ·simp only [if_neg c,if_neg d] at e
   exact h.one i j (by omega) (by omega) e
 ·by_cases a:i=k
  ·simp only [if_pos a];omega
  ·simp only [if_neg a];exact h.lo.2 i (by omega)
theorem Mat.put {w:World} {base n gm a b:Nat} {gs:Nat->Nat} {f:Nat->Nat->Bool} (h:Mat w base n n gm gs f) (ha:a<n):Mat (w.setCell ⟨gs a,b,none⟩ (.bool true)) base n n gm gs fun i j=>if i=a then (if j=b then true else f i j) else f i j:=by
 have d:=h.lo.2 a ha
 refine ⟨h.hdr.far (p:=⟨gs a,b,none⟩) (by show gm≠gs a;omega) _,fun i hi=>?_,h.one,h.lo⟩
 by_cases c:i=a
 ·subst c
  simp only [if_true]
  rw [<- yvals_set]
  exact (h.rows i hi).set b _
 ·simp only [if_neg c]
  exact (h.rows i hi).far (p:=⟨gs a,b,none⟩) (fun e=>c (h.one i a hi ha e)) _
theorem info_rowB:(Tryz.prog.info? 130).map (fun i=>(i.zero,i.size,i.bytes))=some (some (.slice none 0 0),1,24):=by kernel_rfl
def labs (m:Nat) (f:Nat->Nat):List Value:=(List.range m).map fun c=>.int .i64 (f c:Int)
theorem labs_at {m:Nat} {f:Nat->Nat} {c:Nat} (h:c<m):(labs m f)[c]? = some (.int .i64 (f c:Int)):=by
 unfold labs
 rw [List.getElem?_map,List.getElem?_range h];rfl
theorem labs_set {m:Nat} (f:Nat->Nat) (c u:Nat):(labs m f).set c (.int .i64 (u:Int))=labs m fun i=>if i=c then u else f i :=
 map_range_set (by simp) fun i h=>by simp [h]
theorem labs_congr {m:Nat} {f g:Nat->Nat} (h:∀ c,c<m->f c=g c):labs m f=labs m g:=List.map_congr_left fun c hc=>by rw [h c (List.mem_range.1 hc)]
def cutK (l:List Int) (k a b:Nat):Bool:=decide (nm ((a:Int),(b:Int))∈((lpE l).take k).map nm)
theorem cutK_zero (l:List Int) (a b:Nat):cutK l 0 a b=false:=by unfold cutK;rw [List.take_zero];exact decide_eq_false List.not_mem_nil
theorem cutK_succ {l:List Int} {k a b x y:Nat} (hk:k<l.length) (hx:l.getD k 0=(x:Int)) (hy:l.getD ((k+1) % l.length) 0=(y:Int)):cutK l (k+1) a b=(cutK l k a b || decide ((a=x/\b=y)\/(a=y/\b=x))):=by
 unfold cutK
 rw [List.take_succ_eq_append_getElem (by rw [lpE_len];exact hk),List.map_append,List.map_cons,List.map_nil,lpE_at hk,hx,hy,Bool.eq_iff_iff]
 simp only [decide_eq_true_eq,Bool.or_eq_true,List.mem_append,List.mem_singleton]
 refine or_congr Iff.rfl ?_
 rw [nm_eq]
 omega
theorem cutK_all {l:List Int} {a b:Nat}:cutK l l.length a b=decide (nm ((a:Int),(b:Int))∈(lpE l).map nm):=by unfold cutK;rw [List.take_of_length_le (by rw [lpE_len];exact zl)]
theorem refopen_calls {w:World} {B:Nat} {sv lv:Value} {N:Int} {T:List T3} {l:List Int} (hB0:B<=w.heap.size) (hT:Sl 3 RTri w B sv T) (hs:Surf N T) (hTl:T.length<=200) (hl:Sl 1 RInt w B lv l) (hll:l.length<=1000) (hlp:lpN N T l=0) :
  Calls Tryz.prog 42 #[.agg #[.int .i64 N,sv],lv] w fun e w'=>(∃ g,e=.returned (.slice (some ⟨g,0,none⟩) (3 * T.length) (3 * T.length))/\Bk w' g 3 (ivals ((List.range (3 * T.length)).map (newN N T ((lpE l).map nm)))))/\Below w.heap.size w w':=by
 obtain ⟨n,rfl⟩:∃ n:Nat,N=n:=⟨N.toNat,by have:=hs.n0;omega⟩
 obtain ⟨A,bq,rfl,m2⟩:=hT.form
 obtain ⟨A2,lq,rfl,kp⟩:=hl.form
 have nh:=hs.nmax
 have c3:=Bk.new w 24 [.int .i64 (n:Int),.slice A T.length bq]
 have aw:=(Below.refl w.heap.size w).alloc zl (.cells #[.int .i64 (n:Int),.slice A T.length bq] 24)
 have ga:=hT.below keeps_tri (aw.mono hB0)
 have gp:=hl.below keeps_int (aw.mono hB0)
 have nr:w.heap.size+1<=(w.alloc (.cells #[.int .i64 (n:Int),.slice A T.length bq] 24)).heap.size:=by simp
 generalize k3:w.alloc (.cells #[.int .i64 (n:Int),.slice A T.length bq] 24)=J at *
 have c0:J.cell? ⟨w.heap.size,0,none⟩=some (.int .i64 (n:Int)):=c3.cell 0
 have c1:J.cell? ⟨w.heap.size,1,none⟩=some (.slice A T.length bq):=c3.cell 1
 have jt:=run_make_rep (P:=Tryz.prog) 129 Tryz.underlying129 info_rowB rfl n (by omega) (by omega)
 have ng:=run_make_rep (P:=Tryz.prog) 130 Tryz.underlying130 info_bool rfl n (by omega) (by omega)
 have ew:(heads n 0 fun _=>0).toArray=Array.replicate n (.slice none 0 0):=by
  unfold heads
  rw [<- List.toArray_replicate]
  refine congrArg List.toArray (List.ext_getElem (by simp) fun i Q h2=>?_)
  rw [List.getElem_map,if_neg (by omega),List.getElem_replicate]
 have gh:(yvals n fun _=>false).toArray=Array.replicate n (.bool false):=by
  unfold yvals
  rw [<- List.toArray_replicate]
  refine congrArg List.toArray (List.ext_getElem (by simp) fun i Q h2=>?_)
  rw [List.getElem_map,List.getElem_replicate]
 obtain ⟨w1,cu⟩:∃ w1,J.alloc (.cells (Array.replicate n (.slice none 0 0)) 130)=w1:=⟨_,rfl⟩
 have ik:Below J.heap.size J w1:=by rw [<- cu];exact (Below.refl J.heap.size J).alloc zl _
 have g8:Mat w1 J.heap.size n 0 J.heap.size (fun _=>0) fun _ _=>false:=by
  refine ⟨?_,fun i hi=>by omega,fun i j hi=>by omega,zl,fun i hi=>by omega⟩
  rw [<- cu,<- ew]
  exact Bk.new J _ _
 have ns:w1.heap.size=J.heap.size+1:=by rw [<- cu];simp
 obtain ⟨mh,mk,h8,e9,fj,O,h5,l3,i6⟩:=zz9 hT hl ga gp c3 hs g8 ew gh;clear hT hl ga gp c3 hs g8 ew gh
 go_enter Tryz.func42,Tryz.ntmps42
 go_wp2_with fail
 clear k3
 try rw [cu]
 clear cu jt
 go_loopw [6] (fun iv wr=>∃ (k:Nat) (gs:Nat->Nat),k<=n/\iv=.int .i64 (k:Int)/\Mat wr J.heap.size n k J.heap.size gs (fun _ _=>false)/\Below J.heap.size J wr) (fun iv _=>n - (intOf iv).toNat)
 case atStart=>exact ⟨0,_,by omega,rfl,h5.out,ik⟩
 case round =>
  obtain ⟨k,gs,hk,rfl,hM,a8⟩:=hrel
  obtain ⟨Z,fc⟩:∃ Z,Z=wr:=⟨_,rfl⟩
  subst fc
  have cz:=a8.size
  have ed:=(a8.cell (p:=⟨w.heap.size,0,none⟩) (by show w.heap.size<_;omega)).trans c0
  by_cases gm:k<n
  ·have hc:=(hM.hdr.cell k).trans (heads_none gm (Nat.lt_irrefl k))
   have jj:=hM.hdr.frozen
   have jl:=hM.hdr.lt
   have b7:=hM.row gm fun _=>rfl
   rw [i6.out] at b7
   have b8:=(a8.alloc cz (.cells (Array.replicate n (.bool false)) 4)).setCell (p:=⟨J.heap.size,k,none⟩) zl (.slice (some ⟨Z.heap.size,0,none⟩) n n)
   rw [World.setCell_alloc_past _ _ _ _ jl] at b7 b8
   obtain ⟨ca,e7⟩:=zz2 hM b7;clear hM b7
   go_wp2_with fail
   all_goals first | (exfalso;omega) | skip
   exact ⟨⟨k+1,_,by omega,by simp,e7.out,b8⟩,by simp [intOf];omega⟩
  ·obtain rfl:n=k:=by omega
   have ca:=zz hM;clear hM
   go_wp2_with fail
   all_goals first | (exfalso;omega) | skip
   obtain ⟨gr,gq,nc,_,_⟩:=loop_open hlp
   have k0:=a8
   have nd:=e9.out
   obtain ⟨bx,lb⟩:=zz2 gr gq;clear gr gq
   go_loopw [7] (fun iv wr=>∃ (k:Nat) (f:Nat->Nat->Bool),k<=l.length/\iv=.int .i64 (k:Int)/\Mat wr J.heap.size n n J.heap.size gs f/\(∀ a b,a<n->b<n->f a b=cutK l k a b)/\Below J.heap.size J wr) (fun iv _=>l.length - (intOf iv).toNat)
   case atStart=>exact ⟨0,_,by omega,rfl,ca.out,fun a b _ _=>(cutK_zero l a b).symm,k0⟩
   case round =>
    obtain ⟨k,f,hk,rfl,hM,hf,a8⟩:=hrel
    obtain ⟨s,k7⟩:∃ s,s=wr:=⟨_,rfl⟩
    subst k7
    have kc:=a8.size
    by_cases cr:k<l.length
    ·have du:=e9.out.below keeps_int (a8.mono (show B<=J.heap.size by omega))
     obtain ⟨b,o,rfl,hb,a1⟩:=du.int_at cr
     have dw:(k+1) % l.length<l.length:=Nat.mod_lt _ (by omega)
     obtain ⟨b2,o2,cd,_,a2⟩:=du.int_at dw
     injection cd with cd
     injection cd with cd hA3
     subst cd;subst hA3
     obtain ⟨x,hx,ah⟩:∃ x:Nat,l[k]=(x:Int)/\x<n:=⟨(l[k]).toNat,by have:=bx.out _ (List.getElem_mem cr);omega,by have:=bx.out _ (List.getElem_mem cr);omega⟩
     obtain ⟨y,hy,ao⟩:∃ y:Nat,l[(k+1) % l.length]=(y:Int)/\y<n:=⟨(l[(k+1) % l.length]).toNat,by have:=bx.out _ (List.getElem_mem dw);omega,by have:=bx.out _ (List.getElem_mem dw);omega⟩
     have ep:=fun a b=>cutK_succ (a:=a) (b:=b) cr ((int_getD cr).trans hx) ((int_getD dw).trans hy)
     rw [hx] at a1
     rw [hy] at a2
     have nk:=tmod_next k l.length
     have na:((k:Int)+1) % (l.length:Int)=(((k+1) % l.length:Nat):Int):=(Int.natCast_emod (k+1) l.length).symm
     have m6:((l.length:Int) == 0)=false:=by rw [beq_eq_false_iff_ne];omega
     have kq:0<(l.length:Int):=by omega
     generalize hq:(k+1) % l.length=q at *
     have mm:s.drew.cell? ⟨b,o+k,none⟩=some (.int .i64 (x:Int)):=a1
     have mn:s.drew.cell? ⟨b,o+q,none⟩=some (.int .i64 (y:Int)):=a2
     have br:=(hM.put (b:=y) ah).drew
     have b7:=br.put (b:=x) ao
     have n7:=hM.lo.2 x ah
     have n8:=hM.lo.2 y ao
     have d1:s.drew.cell? ⟨J.heap.size,x,none⟩=some (.slice (some ⟨gs x,0,none⟩) n n):=(hM.hdr.cell x).trans (heads_at ah ah)
     have d2:s.drew.cell? ⟨gs x,y,none⟩=some (.bool (f x y)):=((hM.rows x ah).cell y).trans (yvals_at ao)
     have d3:(s.setCell ⟨gs x,y,none⟩ (.bool true)).cell? ⟨J.heap.size,y,none⟩=some (.slice (some ⟨gs y,0,none⟩) n n):=(br.hdr.cell y).trans (heads_at ao ao)
     have d4:=((br.rows y ao).cell x).trans (yvals_at ah)
     have f1:∀ i,s.drew.frozen? ⟨gs x,i,none⟩=false:=(hM.rows x ah).frozen
     have f2:=(br.rows y ao).frozen
     obtain ⟨wp,cx⟩:∃ wp,(s.setCell ⟨gs x,y,none⟩ (.bool true)).drew=wp:=⟨_,rfl⟩
     have mu:wp.cell? ⟨J.heap.size,y,none⟩=some (.slice (some ⟨gs y,0,none⟩) n n):=by rw [<- cx];exact d3
     have mv:wp.cell? ⟨gs y,x,none⟩=some (.bool (if y=x then (if x=y then true else f y x) else f y x)):=by rw [<- cx];exact d4
     have mw:∀ i,wp.frozen? ⟨gs y,i,none⟩=false:=by rw [<- cx];exact f2
     have ji:Below J.heap.size J (wp.setCell ⟨gs y,x,none⟩ (.bool true)):=by
      rw [<- cx]
      exact ((a8.setCell (p:=⟨gs x,y,none⟩) (by show J.heap.size<=gs x;omega) _).drew).setCell (p:=⟨gs y,x,none⟩) (by show J.heap.size<=gs y;omega) _
     have g9:Mat (wp.setCell ⟨gs y,x,none⟩ (.bool true)) J.heap.size n n J.heap.size gs fun i j=>if i=y then (if j=x then true else if i=x then (if j=y then true else f i j) else f i j) else if i=x then (if j=y then true else f i j) else f i j:=by rw [<- cx];exact b7
     have gi:∀ a b,a<n->b<n->(if a=y then (if b=x then true else if a=x then (if b=y then true else f a b) else f a b) else if a=x then (if b=y then true else f a b) else f a b)=cutK l (k+1) a b:=fun a b Y hb=>by
      rw [ep,hf a b Y hb]
      cases cutK l k a b <;> (repeat' split) <;> simp_all
     clear d3 d4
     obtain ⟨ca,fw,kt,e7,h7,i9,la,kz,j7,j8,ml⟩:=zz11 hM hf br b7 g9 gi du ep hx hy hq;clear hM hf br b7 g9 gi du ep hx hy hq
     go_wp2_with fail
     all_goals first | (exfalso;omega) | skip
     refine Canon.wp_region_text mixed (by kernel_rfl) ?_
     go_wp2_with fail
     all_goals first | (exfalso;omega) | skip
     refine Canon.chk (by rfl) ?_
     go_wp2_with fail
     all_goals first | (exfalso;omega) | skip
     exact ⟨⟨k+1,_,by omega,by simp,h7.out,i9.out,ji⟩,by simp [intOf];omega⟩
    ·obtain rfl:k=l.length:=by omega
     obtain ⟨ca,fw⟩:=zz2 hM hf;clear hM hf
     obtain ⟨C,hC⟩:∃ C,(lpE l).map nm=C:=⟨_,rfl⟩
     have gg:∀ a b,a<n->b<n->f a b=decide (nm ((a:Int),(b:Int))∈C):=fun a b Y hb=>by rw [fw.out a b Y hb,cutK_all,hC]
     obtain ⟨m,hm⟩:∃ m,m=3 * T.length:=⟨_,rfl⟩
     have nf:3 * (T.length:Int)=(m:Int):=by omega
     have ju:=run_make_rep (P:=Tryz.prog) 28 Tryz.underlying28 info_int rfl m (by omega) (by omega)
     have fy:=(a8.cell (p:=⟨w.heap.size,1,none⟩) (by show w.heap.size<_;omega)).trans c1
     obtain ⟨w5,cw⟩:∃ w5,s.alloc (.cells (Array.replicate m (.int .i64 0)) 3)=w5:=⟨_,rfl⟩
     have cg:Below s.heap.size s w5:=by rw [<- cw];exact (Below.refl s.heap.size s).alloc zl _
     have di:(labs m fun x=>if x<0 then x else 0).toArray=Array.replicate m (.int .i64 0):=by
      unfold labs
      rw [<- List.toArray_replicate]
      refine congrArg List.toArray (List.ext_getElem (by simp) fun i Q h2=>?_)
      rw [List.getElem_map,List.getElem_replicate]
      exact congrArg (fun k:Nat=>Value.int .i64 (k:Int)) (if_neg (Nat.not_lt_zero _))
     have g5:Bk w5 s.heap.size 3 (labs m fun x=>if x<0 then x else 0):=by
      rw [<- cw,<- di]
      exact Bk.new s _ _
     have nt:w5.heap.size=s.heap.size+1:=by rw [<- cw];simp
     have gd:=fj.out
     have gb:=h8.out.below keeps_tri (a8.mono (show B<=J.heap.size by omega))
     have g0:B<=s.heap.size:=by omega
     obtain ⟨b5,j4,i0,gx,e8,kv,fm⟩:=zz7 hm hC gg g5 gb gd di;clear hm hC gg g5 gb gd di
     go_wp2_with fail
     all_goals first | (exfalso;omega) | skip
     try rw [cw]
     clear cw
     go_loopw [11] (fun iv wr=>∃ c:Nat,c<=m/\iv=.int .i64 (c:Int)/\Bk wr s.heap.size 3 (labs m fun x=>if x<c then x else 0)/\Below s.heap.size s wr) (fun iv _=>m - (intOf iv).toNat)
     case atStart=>exact ⟨0,by omega,rfl,gx.out,cg⟩
     case round =>
      obtain ⟨c,hc,rfl,W,em⟩:=hrel
      obtain ⟨gu,iu⟩:∃ gu,gu=wr:=⟨_,rfl⟩
      subst iu
      have nu:=em.size
      by_cases ba:c<m
      ·have n4:=(W.cell c).trans (labs_at ba)
       have jj:=W.frozen
       have eh:=W.set c (.int .i64 (c:Int))
       rw [labs_set,labs_congr (g:=fun x=>if x<c+1 then x else 0) fun x _=>by
        by_cases Q:x=c
        ·rw [if_pos Q,if_pos (by omega),Q]
        ·rw [if_neg Q]
         by_cases h2:x<c
         ·rw [if_pos h2,if_pos (by omega)]
         ·rw [if_neg h2,if_neg (by omega)]] at eh
       have jh:=em.setCell (p:=⟨s.heap.size,c,none⟩) zl (.int .i64 (c:Int))
       obtain ⟨ai,gy⟩:=zz2 W eh;clear W eh
       go_wp2_with fail
       all_goals first | (exfalso;omega) | skip
       exact ⟨⟨c+1,by omega,by simp,gy.out,jh⟩,by simp [intOf];omega⟩
      ·obtain rfl:m=c:=by omega
       rw [labs_congr (g:=lrnd T C 0) fun x hx=>by rw [if_pos hx];rfl] at W
       have ai:=zz W;clear W
       go_wp2_with fail
       all_goals first | (exfalso;omega) | skip
       have il:=em
       go_loopw [88] (fun iv wr=>∃ r:Nat,r<=m/\iv=.int .i64 (r:Int)/\Bk wr s.heap.size 3 (labs m (lrnd T C r))/\Below s.heap.size s wr) (fun iv _=>m - (intOf iv).toNat)
       case atStart=>exact ⟨0,by omega,rfl,ai.out,il⟩
       case round =>
        obtain ⟨r,hr,rfl,W,bs⟩:=hrel
        obtain ⟨L,k5⟩:∃ L,L=wr:=⟨_,rfl⟩
        subst k5
        have k9:=bs.size
        by_cases nj:r<m
        ·have g6:=W
         have im:=bs
         obtain ⟨ai,gz⟩:=zz2 W g6;clear W g6
         go_wp2_with fail
         go_loopw [12] (fun cv wr=>∃ c:Nat,c<=m/\cv=.int .i64 (c:Int)/\Bk wr s.heap.size 3 (labs m (rndK T C (lrnd T C r) c))/\Below s.heap.size s wr) (fun cv _=>m - (intOf cv).toNat)
         case atStart=>exact ⟨0,by omega,rfl,gz.out,im⟩
         case round =>
          obtain ⟨c,hc,rfl,W,b9⟩:=hrel
          obtain ⟨Z,fc⟩:∃ Z,Z=wr:=⟨_,rfl⟩
          subst fc
          have cz:=b9.size
          have ed:=(b9.cell (p:=⟨w.heap.size,0,none⟩) (by show w.heap.size<_;omega)).trans ((a8.cell (p:=⟨w.heap.size,0,none⟩) (by show w.heap.size<_;omega)).trans c0)
          have fz:=(b9.cell (p:=⟨w.heap.size,1,none⟩) (by show w.heap.size<_;omega)).trans fy
          by_cases ba:c<m
          ·obtain ⟨F,hF⟩:∃ F,rndK T C (lrnd T C r) c=F:=⟨_,rfl⟩
           have dx:rndK T C (lrnd T C r) (c+1)=rlx T C F c:=by rw [<- hF];rfl
           rw [hF] at W
           have ds:c<3 * T.length:=by omega
           obtain ⟨i,hi⟩:∃ i,c / 3=i:=⟨_,rfl⟩
           obtain ⟨k1,ez⟩:∃ k1,c % 3=k1:=⟨_,rfl⟩
           obtain ⟨k2,gl⟩:∃ k2,(c % 3+2) % 3=k2:=⟨_,rfl⟩
           have ex:i<T.length:=by omega
           have fd:k1<3:=by omega
           have ke:k2<3:=by omega
           have g1:(c:Int) / 3=(i:Int):=by omega
           have mx:(c:Int).tdiv 3=(i:Int):=by rw [Int.tdiv_eq_ediv_of_nonneg (by omega)];exact g1
           have g2:(c:Int) % 3=(k1:Int):=by omega
           have my:(c:Int).tmod 3=(k1:Int):=by rw [Int.tmod_eq_emod_of_nonneg (by omega)];exact g2
           have g3:((k1:Int)+2) % 3=(k2:Int):=by omega
           have mz:((k1:Int)+2).tmod 3=(k2:Int):=by rw [Int.tmod_eq_emod_of_nonneg (by omega)];exact g3
           have dq:=e8.out.below keeps_tri (b9.mono g0)
           obtain ⟨b,o,rfl,hb,t⟩:=tri_cells dq ex
           have t0:Z.cell? ⟨b,o+i * 3,none⟩=some (.int .i64 (Mesh.vt T (3 * i))):=t 0 (by omega)
           have t1:Z.cell? ⟨b,o+i * 3+1,none⟩=some (.int .i64 (Mesh.vt T (3 * i+1))):=t 1 (by omega)
           have t2:Z.cell? ⟨b,o+i * 3+2,none⟩=some (.int .i64 (Mesh.vt T (3 * i+2))):=t 2 (by omega)
           have dr:∀ k,k<3->([.int .i64 (Mesh.vt T (3 * i)),.int .i64 (Mesh.vt T (3 * i+1)),.int .i64 (Mesh.vt T (3 * i+2))]:List Value)[k]? = some (.int .i64 (Mesh.vt T (3 * i+k))):=fun k hk=>by
            rcases (by omega:k=0\/k=1\/k=2) with rfl | rfl | rfl <;> rfl
           have U:Mesh.vt T (3 * i+k1)=Mesh.vt T c:=by rw [show 3 * i+k1=c by omega]
           have f9:Mesh.vt T (3 * i+k2)=Mesh.vt T (pv c):=by rw [show 3 * i+k2=pv c by unfold pv;omega]
           have aw:=dr k1 fd
           have b8:=dr k2 ke
           rw [U] at aw
           rw [f9] at b8
           obtain ⟨x,hx,ah⟩:∃ x:Nat,Mesh.vt T c=(x:Int)/\x<n:=⟨(Mesh.vt T c).toNat,by have:=O.out.rng c ds;omega,by have:=O.out.rng c ds;omega⟩
           obtain ⟨y,hy,ao⟩:∃ y:Nat,Mesh.vt T (pv c)=(y:Int)/\y<n:=⟨(Mesh.vt T (pv c)).toNat,by have:=O.out.rng _ (pv_lt ds);omega,by have:=O.out.rng _ (pv_lt ds);omega⟩
           rw [hx] at aw
           rw [hy] at b8
           generalize Mesh.vt T (3 * i)=q0 at *
           generalize Mesh.vt T (3 * i+1)=q1 at *
           generalize Mesh.vt T (3 * i+2)=q2 at *
           obtain ⟨wb,e0⟩:∃ wb,Z.alloc (.cells #[.int .i64 q0,.int .i64 q1,.int .i64 q2] 57)=wb:=⟨_,rfl⟩
           have bt:Below Z.heap.size Z wb:=by rw [<- e0];exact (Below.refl Z.heap.size Z).alloc zl _
           have cq:Bk wb Z.heap.size 57 [.int .i64 q0,.int .i64 q1,.int .i64 q2]:=by rw [<- e0];exact Bk.new Z _ _
           have ka:=bt.size
           have m0:=b9.trans (bt.mono cz)
           have e1:wb.drew.cell? ⟨Z.heap.size,k1,none⟩=some (.int .i64 (x:Int)):=(cq.cell k1).trans aw
           have e2:wb.drew.cell? ⟨Z.heap.size,k2,none⟩=some (.int .i64 (y:Int)):=(cq.cell k2).trans b8
           have n9:Z.heap.size<wb.heap.size:=cq.lt
           have s0:wb.drew.cell? ⟨w.heap.size,0,none⟩=some (.int .i64 (n:Int)):=(bt.cell (p:=⟨w.heap.size,0,none⟩) (by show w.heap.size<_;omega)).trans ed
           have s1:wb.drew.cell? ⟨w.heap.size,1,none⟩=some (.slice (some ⟨b,o,none⟩) T.length bq):=(bt.cell (p:=⟨w.heap.size,1,none⟩) (by show w.heap.size<_;omega)).trans fz
           have dt:=facing21_calls (w:=wb.drew) (B:=B) (N:=(n:Int)) ((dq.below keeps_tri (bt.mono (by omega))).drew keeps_tri) (show B<=wb.heap.size by omega) (by omega) (x:Int) (y:Int)
           have f6:facing T ((x:Int),(y:Int))=opp T (nx c):=by rw [<- hx,<- hy];show _=facing T (Mesh.vt T (pv (nx c)),Mesh.vt T (nx (nx c)));rw [pv_nx,nx_nx]
           rw [f6] at dt
           obtain ⟨z,hz⟩:∃ z:Int,oi (opp T (nx c))=z:=⟨_,rfl⟩
           rw [hz] at dt
           have eq:∀ d,aft T c=some d->(ctB T C d↔nm ((x:Int),(y:Int))∈C):=fun d Y=>by
            obtain ⟨_,h2,h3⟩:=O.out.aft_iff.1 Y
            unfold ctB
            rw [h2,h3,hx,hy]
           have R:=i0.out x y ah ao
           clear t
           obtain ⟨hp,ai,mg,cb,ky,l9,i7,dl,au,kw,kx,b1⟩:=zz12 dq W hF dx dr cq dt eq R aw b8 U;obtain ⟨ll,li,l7,l8,mj,fx⟩:=zz6 f9 f6 ez gl hi hz;clear dq W hF dx dr cq dt eq R aw b8 U f9 f6 ez gl hi hz
           go_wp2_with fail
           all_goals first | (exfalso;omega) | skip
           try rw [e0]
           refine Canon.wp_region_text mixed (by kernel_rfl) ?_
           go_wp2_with fail
           all_goals first | (exfalso;omega) | skip
           refine Canon.chk (by rfl) ?_
           go_wp2_with fail
           all_goals first | (exfalso;omega) | skip
           clear e0
           refine i7.out.mono ?_
           rintro e w9 ⟨rfl,el⟩
           have m8:wb.heap.size<=w9.heap.size:=el.size
           have bu:Below Z.heap.size Z w9:=(bt.drew).trans (el.mono ka)
           have dg:=b9.trans (bu.mono cz)
           have bj:=ca.out.below dg zl
           have b6:=ai.out.below bu ai.out.lt
           have d1:w9.cell? ⟨J.heap.size,x,none⟩=some (.slice (some ⟨gs x,0,none⟩) n n):=(bj.hdr.cell x).trans (heads_at ah ah)
           have d2:w9.cell? ⟨gs x,y,none⟩=some (.bool (f x y)):=((bj.rows x ah).cell y).trans (yvals_at ao)
           have R:=au.out
           obtain ⟨fb,S⟩:∃ fb,f x y=fb:=⟨_,rfl⟩
           rw [S] at d2 R
           have ad:rlx T C F c=F->Bk w9 s.heap.size 3 (labs m (rndK T C (lrnd T C r) (c+1))):=fun e=>by rw [cb.out,e];exact b6
           clear S au
           cases fb with
           | true =>
            have ey:nm ((x:Int),(y:Int))∈C:=of_decide_eq_true R.symm
            have cp:=ad (by
             rcases rlx_cases (T:=T) (C:=C) F c with e | ⟨d,Y,hn,_⟩
             ·exact e
             ·exact absurd ((dl.out d Y).2 ey) hn)
            obtain ⟨h6,h0,ea,au,l5,da⟩:=zz6 bj b6 ad R ey cp;clear bj b6 ad R ey cp
            go_wp2_with fail
            all_goals first | (exfalso;omega) | skip
            exact ⟨⟨c+1,by omega,by simp,da.out,dg⟩,by simp [intOf];omega⟩
           | false =>
           have c6:nm ((x:Int),(y:Int)) ∉ C:=of_decide_eq_false R.symm
           cases ho:opp T (nx c) with
           | none =>
            have e3:z = -1:=by rw [<- fx.out,ho];rfl
            have ny:z<0:=by omega
            have cp:=ad (by
             rcases rlx_cases (T:=T) (C:=C) F c with e | ⟨d,Y,_,_⟩
             ·exact e
             ·unfold aft at Y
              rw [ho] at Y
              cases Y)
            obtain ⟨h6,h0,ea,au,dp,da,j6,lm⟩:=zz8 bj b6 ad R c6 cp ho e3;clear bj b6 ad R c6 cp ho e3
            go_wp2_with fail
            all_goals first | (exfalso;omega) | skip
            exact ⟨⟨c+1,by omega,by simp,da.out,dg⟩,by simp [intOf];omega⟩
           | some oo =>
           have e3:z=(oo:Int):=by rw [<- fx.out,ho];rfl
           subst e3
           have Y:aft T c=some (nx oo):=by unfold aft;rw [ho];rfl
           obtain ⟨ci,cj,_⟩:=O.out.aft_iff.1 Y
           have ni:=(O.out.opp_iff.1 ho).1
           obtain ⟨I,gj⟩:∃ I,oo / 3=I:=⟨_,rfl⟩
           obtain ⟨j2,gk⟩:∃ j2,(oo+1) % 3=j2:=⟨_,rfl⟩
           have et:nx oo=3 * I+j2:=by unfold nx;omega
           rw [et] at Y ci cj
           have ip:I<T.length:=by omega
           have m4:j2<3:=by omega
           have p1:(oo:Int) / 3=(I:Int):=by omega
           have o5:(oo:Int).tdiv 3=(I:Int):=by rw [Int.tdiv_eq_ediv_of_nonneg (by omega)];exact p1
           have ei:=hp.out.below keeps_tri (bu.mono (by omega))
           obtain ⟨b',o',cc,n3,t⟩:=tri_cells ei ip
           injection cc with cc
           injection cc with cc hA''
           subst cc;subst hA''
           have u0:w9.cell? ⟨b,o+I * 3,none⟩=some (.int .i64 (Mesh.vt T (3 * I))):=t 0 (by omega)
           have u1:w9.cell? ⟨b,o+I * 3+1,none⟩=some (.int .i64 (Mesh.vt T (3 * I+1))):=t 1 (by omega)
           have u2:w9.cell? ⟨b,o+I * 3+2,none⟩=some (.int .i64 (Mesh.vt T (3 * I+2))):=t 2 (by omega)
           have eo:∀ k,k<3->([.int .i64 (Mesh.vt T (3 * I)),.int .i64 (Mesh.vt T (3 * I+1)),.int .i64 (Mesh.vt T (3 * I+2))]:List Value)[k]? = some (.int .i64 (Mesh.vt T (3 * I+k))):=fun k hk=>by
            rcases (by omega:k=0\/k=1\/k=2) with rfl | rfl | rfl <;> rfl
           have ct:∀ j,j<j2->Mesh.vt T (3 * I+j)≠(x:Int):=fun j hj e=>by
            have h9:=O.out.same_tri (c:=3 * I+j) (d:=3 * I+j2) (by omega) (by omega) (by rw [e,cj,hx])
            omega
           have dy:Mesh.vt T (3 * I+j2)=(x:Int):=by rw [cj,hx]
           have mq:=(bu.cell (p:=⟨w.heap.size,0,none⟩) (by show w.heap.size<_;omega)).trans ed
           have mt:=(bu.cell (p:=⟨w.heap.size,1,none⟩) (by show w.heap.size<_;omega)).trans fz
           generalize Mesh.vt T (3 * I)=r0 at *
           generalize Mesh.vt T (3 * I+1)=r1 at *
           generalize Mesh.vt T (3 * I+2)=r2 at *
           obtain ⟨d0,c8⟩:∃ d0,w9.alloc (.cells #[.int .i64 r0,.int .i64 r1,.int .i64 r2] 57)=d0:=⟨_,rfl⟩
           have bz:Below w9.heap.size w9 d0:=by rw [<- c8];exact (Below.refl w9.heap.size w9).alloc zl _
           have gn:Bk d0 w9.heap.size 57 [.int .i64 r0,.int .i64 r1,.int .i64 r2]:=by rw [<- c8];exact Bk.new w9 _ _
           have ir:=bu.trans (bz.mono (by omega))
           have c4:=b9.trans (ir.mono cz)
           have ef:=b6.below bz b6.lt
           have kr:=bz.size
           clear t bj b6 ad
           obtain ⟨au,dp,j6,fu,i5,l2,l1,l4,l6,ku,fk,e4⟩:=zz12 R c6 ho Y ci cj et gj gk ei eo ct;obtain ⟨eb,ic,an,j7,j8⟩:=zz5 dy gn ef hx hy;clear R c6 ho Y ci cj et gj gk ei eo ct dy gn ef hx hy
           go_wp2_with fail
           all_goals first | (exfalso;omega) | skip
           try rw [c8]
           clear c8
           go_loopw [18] (fun dv wr=>∃ j:Nat,j<=j2/\dv=.int .i64 ((3 * I+j:Nat):Int)/\wr=d0) (fun dv _=>3 * I+j2 - (intOf dv).toNat)
           case atStart=>exact ⟨0,by omega,congrArg (Value.int .i64) (by omega),rfl⟩
           case round =>
            obtain ⟨j,hj,rfl,rfl⟩:=hrel
            have jn:j<3:=by omega
            have m1:((3 * I+j:Nat):Int) % 3=(j:Int):=by omega
            have ff:((3 * I+j:Nat):Int).tmod 3=(j:Int):=by rw [Int.tmod_eq_emod_of_nonneg (by omega)];exact m1
            have jk:=(ic.out.cell j).trans (fk.out j jn)
            by_cases jo:j<j2
            ·have f5:=e4.out j jo
             generalize Mesh.vt T (3 * I+j)=q at *
             have jx:(q != (x:Int))=true:=bne_iff_ne.2 f5
             obtain ⟨dd,er⟩:∃ dd,3 * I+j=dd:=⟨_,rfl⟩
             have es:3 * I+(j+1)=dd+1:=by omega
             rw [er] at m1 ff ⊢
             have n5:dd<=100000:=by omega
             have ev:(.int .i64 ((dd:Int)+1):Value)=.int .i64 ((3 * I+(j+1):Nat):Int):=congrArg (Value.int .i64) (by omega)
             have f3:3 * I+j2 - (dd+1)<3 * I+j2 - dd:=by omega
             obtain ⟨lh,l0,ko,fl,fo⟩:=zz5 f5 er es ev f3;clear f5 er es ev f3
             go_wp2_with fail
             all_goals first | (exfalso;omega) | skip
             exact ⟨⟨j+1,by omega,fl.out,by trivial⟩,by simp [intOf];have:=fo.out;omega⟩
            ·obtain rfl:j2=j:=by omega
             rw [eb.out] at jk
             have jx:((x:Int) != (x:Int))=false:=bne_eq_false_iff_eq.2 rfl
             obtain ⟨d,hd⟩:∃ d,3 * I+j2=d:=⟨_,rfl⟩
             have Y:=fu.out
             have ci:=i5.out
             rw [hd] at m1 ff Y ci ⊢
             have af:d<m:=by omega
             have lc:=(an.out.cell c).trans (labs_at ba)
             have ld:=(an.out.cell d).trans (labs_at af)
             have o1:wr.drew.cell? ⟨s.heap.size,c,none⟩=some (.int .i64 (F c:Int)):=lc
             have o3:wr.drew.cell? ⟨s.heap.size,d,none⟩=some (.int .i64 (F d:Int)):=ld
             have lf:=an.out.frozen
             have f4:¬ ctB T C d:=fun h9=>dp.out ((dl.out d Y).1 h9)
             have f8:rlx T C F c=fun i=>if i=c\/i=d then min (F c) (F d) else F i:=by unfold rlx;rw [Y];simp only [if_neg f4]
             have ac:∀ g:Nat->Nat,(∀ i,g i=if i=c\/i=d then min (F c) (F d) else F i)->labs m g=labs m (rndK T C (lrnd T C r) (c+1)):=fun g hg=>by
              rw [cb.out,f8]
              exact labs_congr fun i _=>hg i
             have hcut:F d<F c\/F c<F d\/F c=F d:=by omega
             obtain ⟨lj,lg,fu,mi⟩:=zz4 f8 f4 Y hd;clear f8 f4 Y hd
             rcases hcut with jr | jr | n6
             ·obtain ⟨wy,a3⟩:∃ wy,(wr.setCell ⟨s.heap.size,c,none⟩ (.int .i64 (F d:Int))).drew=wy:=⟨_,rfl⟩
              have X:Bk wy s.heap.size 3 (labs m fun i=>if i=c then F d else F i):=by rw [<- a3,<- labs_set];exact (an.out.set c _).drew
              have ch:Below s.heap.size s wy:=by rw [<- a3];exact (c4.setCell (p:=⟨s.heap.size,c,none⟩) zl _).drew
              have xc:wy.drew.cell? ⟨s.heap.size,c,none⟩=some (.int .i64 (F d:Int)):=by
               have h:=(X.cell c).trans (labs_at ba)
               rw [if_pos rfl] at h
               exact h
              have xd:wy.drew.cell? ⟨s.heap.size,d,none⟩=some (.int .i64 (F d:Int)):=by
               have h:=(X.cell d).trans (labs_at af)
               by_cases h9:d=c
               ·rw [if_pos h9] at h;exact h
               ·rw [if_neg h9] at h;exact h
              rw [ac _ fun i=>by
               by_cases Q:i=c
               ·rw [if_pos Q,if_pos (.inl Q)];omega
               ·rw [if_neg Q]
                by_cases h2:i=d
                ·rw [if_pos (.inr h2),h2];omega
                ·rw [if_neg (by omega)]] at X
              obtain ⟨be,dm,aj⟩:=zz3 X ac a3;clear X ac a3
              go_wp2_with fail
              all_goals first | (exfalso;omega) | skip
              refine Canon.wp_region_text mixed (by kernel_rfl) ?_
              go_wp2_with fail
              all_goals first | (exfalso;omega) | skip
              refine Canon.chk (by rfl) ?_
              go_wp2_with fail
              all_goals first | (exfalso;omega) | skip
              try rw [aj.out]
              clear aj
              go_wp2_with fail
              all_goals first | (exfalso;omega) | skip
              refine Canon.wp_region_text mixed (by kernel_rfl) ?_
              go_wp2_with fail
              all_goals first | (exfalso;omega) | skip
              refine Canon.chk (by rfl) ?_
              go_wp2_with fail
              all_goals first | (exfalso;omega) | skip
              exact ⟨⟨c+1,by omega,by simp,be.out.drew,ch.drew⟩,by simp [intOf];omega⟩
             ·obtain ⟨wy,a3⟩:∃ wy,wr.drew=wy:=⟨_,rfl⟩
              have bi:Bk wy s.heap.size 3 (labs m F):=by rw [<- a3];exact an.out.drew
              have xc:wy.drew.cell? ⟨s.heap.size,c,none⟩=some (.int .i64 (F c:Int)):=(bi.cell c).trans (labs_at ba)
              have xd:wy.drew.cell? ⟨s.heap.size,d,none⟩=some (.int .i64 (F d:Int)):=(bi.cell d).trans (labs_at af)
              have xf:=bi.frozen
              have o6:∀ i,wy.drew.frozen? ⟨s.heap.size,i,none⟩=false:=bi.drew.frozen
              have X:=bi.set d (.int .i64 (F c:Int))
              rw [labs_set,ac _ fun i=>by
               by_cases Q:i=d
               ·rw [if_pos Q,if_pos (.inr Q)];omega
               ·rw [if_neg Q]
                by_cases h2:i=c
                ·rw [if_pos (.inl h2),h2];omega
                ·rw [if_neg (by omega)]] at X
              have ch:Below s.heap.size s (wy.setCell ⟨s.heap.size,d,none⟩ (.int .i64 (F c:Int))):=by rw [<- a3];exact (c4.drew).setCell (p:=⟨s.heap.size,d,none⟩) zl _
              obtain ⟨ks,be,dm,aj⟩:=zz4 bi X ac a3;clear bi X ac a3
              go_wp2_with fail
              all_goals first | (exfalso;omega) | skip
              refine Canon.wp_region_text mixed (by kernel_rfl) ?_
              go_wp2_with fail
              all_goals first | (exfalso;omega) | skip
              refine Canon.chk (by rfl) ?_
              go_wp2_with fail
              all_goals first | (exfalso;omega) | skip
              try rw [aj.out]
              clear aj
              go_wp2_with fail
              all_goals first | (exfalso;omega) | skip
              refine Canon.wp_region_text mixed (by kernel_rfl) ?_
              go_wp2_with fail
              all_goals first | (exfalso;omega) | skip
              refine Canon.chk (by rfl) ?_
              go_wp2_with fail
              all_goals first | (exfalso;omega) | skip
              exact ⟨⟨c+1,by omega,by simp,be.out.drew,ch.drew⟩,by simp [intOf];omega⟩
             ·obtain ⟨wy,a3⟩:∃ wy,wr.drew=wy:=⟨_,rfl⟩
              have X:Bk wy s.heap.size 3 (labs m F):=by rw [<- a3];exact an.out.drew
              have xc:wy.drew.cell? ⟨s.heap.size,c,none⟩=some (.int .i64 (F c:Int)):=(X.cell c).trans (labs_at ba)
              have xd:wy.drew.cell? ⟨s.heap.size,d,none⟩=some (.int .i64 (F d:Int)):=(X.cell d).trans (labs_at af)
              have ch:Below s.heap.size s wy:=by rw [<- a3];exact c4.drew
              rw [ac _ fun i=>by
               by_cases Q:i=c\/i=d
               ·rw [if_pos Q]
                rcases Q with Q | Q <;> rw [Q] <;> omega
               ·rw [if_neg Q]] at X
              obtain ⟨be,dm,aj⟩:=zz3 X ac a3;clear X ac a3
              go_wp2_with fail
              all_goals first | (exfalso;omega) | skip
              refine Canon.wp_region_text mixed (by kernel_rfl) ?_
              go_wp2_with fail
              all_goals first | (exfalso;omega) | skip
              refine Canon.chk (by rfl) ?_
              go_wp2_with fail
              all_goals first | (exfalso;omega) | skip
              try rw [aj.out]
              clear aj
              go_wp2_with fail
              all_goals first | (exfalso;omega) | skip
              refine Canon.wp_region_text mixed (by kernel_rfl) ?_
              go_wp2_with fail
              all_goals first | (exfalso;omega) | skip
              refine Canon.chk (by rfl) ?_
              go_wp2_with fail
              all_goals first | (exfalso;omega) | skip
              exact ⟨⟨c+1,by omega,by simp,be.out.drew,ch.drew⟩,by simp [intOf];omega⟩
          ·obtain rfl:m=c:=by omega
           have g7:Bk Z s.heap.size 3 (labs m (lrnd T C (r+1))):=by
            have e:lrnd T C (r+1)=rndK T C (lrnd T C r) m:=by rw [b5.out];rfl
            rw [e];exact W
           obtain ⟨ai,h4⟩:=zz2 W g7;clear W g7
           go_wp2_with fail
           all_goals first | (exfalso;omega) | skip
           exact ⟨⟨r+1,by omega,by simp,h4.out,b9⟩,by simp [intOf];omega⟩
        ·obtain rfl:m=r:=by omega
         obtain ⟨G,hG⟩:∃ G,lrnd T C m=G:=⟨_,rfl⟩
         rw [hG] at W
         obtain ⟨nn,jv⟩:∃ nn:Nat->Nat,∀ c,nn c=(newN (n:Int) T C c).toNat:=⟨_,fun _=>rfl⟩
         have gt:∀ c,c<m->newN (n:Int) T C c=(nn c:Int):=fun c hc=>by
          have:=newN_nat (C:=C) O.out (c:=c) (by omega)
          rw [jv];omega
         have g4:∀ c,c<m->G c<m:=fun c hc=>by
          have Q:=lrnd_lab (C:=C) O.out m c (by omega)
          rw [hG] at Q
          omega
         obtain ⟨wa,dz⟩:∃ wa,L.alloc (.cells (Array.replicate m (.int .i64 0)) 3)=wa:=⟨_,rfl⟩
         have gf:Below L.heap.size L wa:=by rw [<- dz];exact (Below.refl L.heap.size L).alloc zl _
         have ej:Bk wa L.heap.size 3 (labs m (dn T nn G 0 0 0)):=by
          rw [<- dz,labs_congr (g:=fun x=>if x<0 then x else 0) fun e he=>by rw [dn_zero O.out (by omega),if_neg (by omega)],<- fm.out]
          exact Bk.new L _ _
         have nv:L.heap.size<wa.heap.size:=ej.lt
         have m7:(exH T C 0).length=0:=rfl
         have n2:s.heap.size<L.heap.size:=W.lt
         have ec:=(bs.cell (p:=⟨w.heap.size,0,none⟩) (by show w.heap.size<_;omega)).trans ((a8.cell (p:=⟨w.heap.size,0,none⟩) (by show w.heap.size<_;omega)).trans c0)
         have ee:=(bs.cell (p:=⟨w.heap.size,1,none⟩) (by show w.heap.size<_;omega)).trans fy
         have mo:=(gf.cell (p:=⟨w.heap.size,0,none⟩) (by show w.heap.size<_;omega)).trans ec
         have gc:=e8.out.below keeps_tri (bs.mono g0)
         obtain ⟨ai,db,gw,ht,c9,d5⟩:=zz6 W gt g4 ej hG gc;clear W gt g4 ej hG gc
         go_wp2_with fail
         all_goals first | (exfalso;omega) | skip
         try rw [dz]
         clear dz ju
         go_loopw [20,21] (fun xv vv wr=>∃ v:Nat,v<=n/\xv=.int .i64 ((n+(exH T C v).length:Nat):Int)/\vv=.int .i64 (v:Int)/\Bk wr L.heap.size 3 (labs m (dn T nn G v 0 0))/\Below L.heap.size L wr) (fun _ vv _=>n - (intOf vv).toNat)
         case atStart=>exact ⟨0,by omega,congrArg (Value.int .i64) (by omega),rfl,ht.out,gf⟩
         case round =>
          obtain ⟨v,hv,rfl,rfl,D,c2⟩:=hrel
          obtain ⟨wv,k8⟩:∃ wv,wv=wr:=⟨_,rfl⟩
          subst k8
          have nz:=c2.size
          have mr:=(c2.cell (p:=⟨w.heap.size,0,none⟩) (by show w.heap.size<_;omega)).trans ec
          have hE:=exH_few (T:=T) (C:=C) v
          have ce:=exH_next (T:=T) (C:=C) v
          rw [<- b5.out] at hE ce
          generalize hH:(exH T C v).length=H at *
          by_cases nl:v<n
          ·have ge:=D
           have io:=c2
           have np:xcn T C v 0=0:=rfl
           obtain ⟨ae,hw,gv,j5⟩:=zz4 D ge ce hH;clear D ge ce hH
           go_wp2_with fail
           all_goals first | (exfalso;omega) | skip
           go_loopw [20,22,23] (fun xv fv cv wr=>∃ (c:Nat) (fb:Bool),c<=m/\xv=.int .i64 ((n+(H+xcn T C v c):Nat):Int)/\fv=.bool fb/\cv=.int .i64 (c:Int)/\(fb=true↔∀ e,e<c->¬ (Head T C e/\Mesh.vt T e=(v:Int)))/\Bk wr L.heap.size 3 (labs m (dn T nn G v c 0))/\Below L.heap.size L wr) (fun _ _ cv _=>m - (intOf cv).toNat)
           case atStart=>exact ⟨0,true,by omega,congrArg (Value.int .i64) (by omega),rfl,rfl,⟨fun _ e he=>absurd he (Nat.not_lt_zero e),fun _=>rfl⟩,hw.out,io⟩
           case round =>
            obtain ⟨c,fb,hc,rfl,rfl,rfl,S,D,a5⟩:=hrel
            obtain ⟨wc,k6⟩:∃ wc,wc=wr:=⟨_,rfl⟩
            subst k6
            have nw:=a5.size
            have mp:=(a5.cell (p:=⟨w.heap.size,0,none⟩) (by show w.heap.size<_;omega)).trans ec
            have ms:=(a5.cell (p:=⟨w.heap.size,1,none⟩) (by show w.heap.size<_;omega)).trans ee
            have nq:=xcn_le (T:=T) (C:=C) v c
            by_cases ba:c<m
            ·obtain ⟨i,hi⟩:∃ i,c / 3=i:=⟨_,rfl⟩
             obtain ⟨k1,ez⟩:∃ k1,c % 3=k1:=⟨_,rfl⟩
             have ex:i<T.length:=by omega
             have fd:k1<3:=by omega
             have i1:(c:Int).tdiv 3=(i:Int):=by rw [Int.tdiv_eq_ediv_of_nonneg (by omega)];omega
             have m1:(c:Int).tmod 3=(k1:Int):=by rw [Int.tmod_eq_emod_of_nonneg (by omega)];omega
             have o0:(c:Int) / 3=(i:Int):=by omega
             have ff:(c:Int) % 3=(k1:Int):=by omega
             have av:=d5.out.below keeps_tri (a5.mono (show B<=L.heap.size by omega))
             obtain ⟨b,o,rfl,hb,t⟩:=tri_cells av ex
             have t1:=t k1 fd
             rw [show 3 * i+k1=c by omega] at t1
             have jq:wc.cell? ⟨s.heap.size,c,none⟩=some (.int .i64 (G c:Int)):=(a5.cell (p:=⟨s.heap.size,c,none⟩) (by show s.heap.size<_;omega)).trans ((ai.out.cell c).trans (labs_at ba))
             have bv:¬ (Mesh.vt T c=(v:Int)/\G c=c)->_:=fun h=>num_skip (C:=C) O.out (v:=v) (c:=c) (by omega) (by rw [<- b5.out,c9.out];exact h)
             have co:Mesh.vt T c=(v:Int)->G c=c->_:=fun Q h2=>num_head (C:=C) O.out (v:=v) (c:=c) (by omega) Q (by rw [<- b5.out,c9.out];exact h2) S
             rw [<- b5.out,c9.out] at bv co
             by_cases U:Mesh.vt T c=(v:Int)
             ·rw [U] at t1
              have jz:((v:Int) != (v:Int))=false:=bne_eq_false_iff_eq.2 rfl
              by_cases bm:G c=c
              ·rw [bm] at jq
               have jy:((c:Int) != (c:Int))=false:=bne_eq_false_iff_eq.2 rfl
               obtain ⟨ag,cn,cm⟩:=co U bm
               clear co bv t
               cases fb with
               | true =>
                obtain ⟨az,bb⟩:=cn rfl
                have cs:∀ d,d<m->G d=c->nn d=v:=fun d hd hg=>by have Q:=db.out d hd;have h2:=bb d hd hg;omega
                have cy:n+(H+xcn T C v c)=n+(H+xcn T C v (c+1)):=by omega
                have cf:=D
                have en:=a5
                obtain ⟨ae,d7,d6,bw,bg,ia,i8,ih,i3,dc,de,b1⟩:=zz12 D cf av S ag cn cm az bb cs cy U;have ib:=zz bm;clear D cf av S ag cn cm az bb cs cy U bm
                go_wp2_with fail
                all_goals first | (exfalso;omega) | skip
                go_loopw [25] (fun dv wr=>∃ d:Nat,d<=m/\dv=.int .i64 (d:Int)/\Bk wr L.heap.size 3 (labs m (dn T nn G v c d))/\Below L.heap.size L wr) (fun dv _=>m - (intOf dv).toNat)
                case atStart=>exact ⟨0,by omega,rfl,d7.out,en⟩
                case round =>
                 obtain ⟨d,hd,rfl,D,K⟩:=hrel
                 obtain ⟨wd,fa⟩:∃ wd,wd=wr:=⟨_,rfl⟩
                 subst fa
                 have kb:=K.size
                 by_cases af:d<m
                 ·have f0:wd.cell? ⟨s.heap.size,d,none⟩=some (.int .i64 (G d:Int)):=(K.cell (p:=⟨s.heap.size,d,none⟩) (by show s.heap.size<_;omega)).trans ((ai.out.cell d).trans (labs_at af))
                  have jb:=(K.cell (p:=⟨w.heap.size,1,none⟩) (by show w.heap.size<_;omega)).trans ee
                  by_cases M:G d=c
                  ·rw [M] at f0
                   have f7:((c:Int) == (c:Int))=true:=beq_self_eq_true _
                   have ax:Mesh.vt T d=(v:Int):=by
                    have h9:=(lrnd_head (C:=C) O.out (c:=d) (by omega)).2
                    rw [<- b5.out,c9.out,M] at h9
                    exact (h9.vt O.out).trans b1.out
                   obtain ⟨i4,jm⟩:∃ i4,d / 3=i4:=⟨_,rfl⟩
                   obtain ⟨k4,jp⟩:∃ k4,d % 3=k4:=⟨_,rfl⟩
                   have dh:i4<T.length:=by omega
                   have fe:k4<3:=by omega
                   have j1:(d:Int).tdiv 3=(i4:Int):=by rw [Int.tdiv_eq_ediv_of_nonneg (by omega)];omega
                   have n1:(d:Int).tmod 3=(k4:Int):=by rw [Int.tmod_eq_emod_of_nonneg (by omega)];omega
                   have kd:(d:Int) / 3=(i4:Int):=by omega
                   have kf:(d:Int) % 3=(k4:Int):=by omega
                   have bk:=d5.out.below keeps_tri (K.mono (show B<=L.heap.size by omega))
                   obtain ⟨b4,o4,am,jg,t⟩:=tri_cells bk dh
                   injection am with am
                   injection am with am hA5
                   subst am;subst hA5
                   have t4:=t k4 fe
                   rw [show 3 * i4+k4=d by omega,ax] at t4
                   have it:((v:Int) == (v:Int))=true:=beq_self_eq_true _
                   have iw:=(D.cell d).trans (labs_at af)
                   have ix:=D.frozen
                   have E:=D.set d (.int .i64 (v:Int))
                   rw [labs_set,labs_congr (g:=dn T nn G v c (d+1)) fun e _=>dn_set ax M (dc.out d af M) e] at E
                   have cg:=K.setCell (p:=⟨L.heap.size,d,none⟩) zl (.int .i64 (v:Int))
                   clear t
                   obtain ⟨ae,V,hh,ig,d9⟩:=zz5 D E bk ax M;clear D E bk ax M
                   go_wp2_with fail
                   all_goals first | (exfalso;omega) | skip
                   exact ⟨⟨d+1,by omega,by simp,V.out,cg⟩,by simp [intOf];omega⟩
                  ·have f7:((G d:Int) == (c:Int))=false:=beq_eq_false_iff_ne.2 (by omega)
                   have E:=D
                   rw [labs_congr (g:=dn T nn G v c (d+1)) fun e _=>dn_keep (fun h=>M h.1) e] at E
                   obtain ⟨ae,V,d9⟩:=zz3 D E M;clear D E M
                   go_wp2_with fail
                   all_goals first | (exfalso;omega) | skip
                   exact ⟨⟨d+1,by omega,by simp,V.out,K⟩,by simp [intOf];omega⟩
                 ·obtain rfl:m=d:=by omega
                  have E:=D
                  rw [labs_congr (g:=dn T nn G v (c+1) 0) fun e he=>dn_full he] at E
                  obtain ⟨ae,V⟩:=zz2 D E;clear D E
                  go_wp2_with fail
                  all_goals first | (exfalso;omega) | skip
                  exact ⟨⟨c+1,false,by omega,congrArg (Value.int .i64) (by have:=de.out;omega),rfl,by simp,bg.out,V.out,K⟩,by simp [intOf];omega⟩
               | false =>
                obtain ⟨az,bb⟩:=cm rfl
                rw [j5.out] at bb
                obtain ⟨u,hu⟩:∃ u:Nat,n+(H+xcn T C v c)=u:=⟨_,rfl⟩
                have cs:∀ d,d<m->G d=c->nn d=u:=fun d hd hg=>by have Q:=db.out d hd;have h2:=bb d hd hg;omega
                have cy:u+1=n+(H+xcn T C v (c+1)):=by omega
                have cf:=D
                have en:=a5
                obtain ⟨ae,d7,d6,bw,bg,ia,i8,ih,i3,dc,de,b1⟩:=zz12 D cf av S ag cn cm az bb cs cy U;have ib:=zz bm;clear D cf av S ag cn cm az bb cs cy U bm
                go_wp2_with fail
                all_goals first | (exfalso;omega) | skip
                go_loopw [25] (fun dv wr=>∃ d:Nat,d<=m/\dv=.int .i64 (d:Int)/\Bk wr L.heap.size 3 (labs m (dn T nn G v c d))/\Below L.heap.size L wr) (fun dv _=>m - (intOf dv).toNat)
                case atStart=>exact ⟨0,by omega,rfl,d7.out,en⟩
                case round =>
                 obtain ⟨d,hd,rfl,D,K⟩:=hrel
                 obtain ⟨wd,fa⟩:∃ wd,wd=wr:=⟨_,rfl⟩
                 subst fa
                 have kb:=K.size
                 by_cases af:d<m
                 ·have f0:wd.cell? ⟨s.heap.size,d,none⟩=some (.int .i64 (G d:Int)):=(K.cell (p:=⟨s.heap.size,d,none⟩) (by show s.heap.size<_;omega)).trans ((ai.out.cell d).trans (labs_at af))
                  have jb:=(K.cell (p:=⟨w.heap.size,1,none⟩) (by show w.heap.size<_;omega)).trans ee
                  by_cases M:G d=c
                  ·rw [M] at f0
                   have f7:((c:Int) == (c:Int))=true:=beq_self_eq_true _
                   have ax:Mesh.vt T d=(v:Int):=by
                    have h9:=(lrnd_head (C:=C) O.out (c:=d) (by omega)).2
                    rw [<- b5.out,c9.out,M] at h9
                    exact (h9.vt O.out).trans b1.out
                   obtain ⟨i4,jm⟩:∃ i4,d / 3=i4:=⟨_,rfl⟩
                   obtain ⟨k4,jp⟩:∃ k4,d % 3=k4:=⟨_,rfl⟩
                   have dh:i4<T.length:=by omega
                   have fe:k4<3:=by omega
                   have j1:(d:Int).tdiv 3=(i4:Int):=by rw [Int.tdiv_eq_ediv_of_nonneg (by omega)];omega
                   have n1:(d:Int).tmod 3=(k4:Int):=by rw [Int.tmod_eq_emod_of_nonneg (by omega)];omega
                   have kd:(d:Int) / 3=(i4:Int):=by omega
                   have kf:(d:Int) % 3=(k4:Int):=by omega
                   have bk:=d5.out.below keeps_tri (K.mono (show B<=L.heap.size by omega))
                   obtain ⟨b4,o4,am,jg,t⟩:=tri_cells bk dh
                   injection am with am
                   injection am with am hA5
                   subst am;subst hA5
                   have t4:=t k4 fe
                   rw [show 3 * i4+k4=d by omega,ax] at t4
                   have it:((v:Int) == (v:Int))=true:=beq_self_eq_true _
                   have iw:=(D.cell d).trans (labs_at af)
                   have ix:=D.frozen
                   have E:=D.set d (.int .i64 (u:Int))
                   rw [labs_set,labs_congr (g:=dn T nn G v c (d+1)) fun e _=>dn_set ax M (dc.out d af M) e] at E
                   have cg:=K.setCell (p:=⟨L.heap.size,d,none⟩) zl (.int .i64 (u:Int))
                   clear t
                   obtain ⟨ae,V,hh,ig,d9⟩:=zz5 D E bk ax M;clear D E bk ax M
                   go_wp2_with fail
                   all_goals first | (exfalso;omega) | skip
                   exact ⟨⟨d+1,by omega,by simp,V.out,cg⟩,by simp [intOf];omega⟩
                  ·have f7:((G d:Int) == (c:Int))=false:=beq_eq_false_iff_ne.2 (by omega)
                   have E:=D
                   rw [labs_congr (g:=dn T nn G v c (d+1)) fun e _=>dn_keep (fun h=>M h.1) e] at E
                   obtain ⟨ae,V,d9⟩:=zz3 D E M;clear D E M
                   go_wp2_with fail
                   all_goals first | (exfalso;omega) | skip
                   exact ⟨⟨d+1,by omega,by simp,V.out,K⟩,by simp [intOf];omega⟩
                 ·obtain rfl:m=d:=by omega
                  have E:=D
                  rw [labs_congr (g:=dn T nn G v (c+1) 0) fun e he=>dn_full he] at E
                  obtain ⟨ae,V⟩:=zz2 D E;clear D E
                  go_wp2_with fail
                  all_goals first | (exfalso;omega) | skip
                  exact ⟨⟨c+1,false,by omega,congrArg (Value.int .i64) (by have:=de.out;omega),rfl,by simp,bg.out,V.out,K⟩,by simp [intOf];omega⟩
              ·obtain ⟨az,bn,ag⟩:=bv fun h=>bm h.2
               have jy:((G c:Int) != (c:Int))=true:=bne_iff_ne.2 (by omega)
               have a0:=D
               rw [labs_congr (g:=dn T nn G v (c+1) 0) fun e he=>(dn_skip fun hv=>bn e he hv).symm] at a0
               have ck:=ag fb S
               clear co bv t
               obtain ⟨ae,ap,d6,bw,bg,d8,ie,b1⟩:=zz8 D a0 av S ag ck bn U;clear D a0 av S ag ck bn U
               go_wp2_with fail
               all_goals first | (exfalso;omega) | skip
               exact ⟨⟨c+1,fb,by omega,by rw [az],rfl,by simp,d8.out,ap.out,a5⟩,by simp [intOf];omega⟩
             ·obtain ⟨az,bn,ag⟩:=bv fun h=>U h.1
              have jz:(Mesh.vt T c != (v:Int))=true:=bne_iff_ne.2 U
              have a0:=D
              rw [labs_congr (g:=dn T nn G v (c+1) 0) fun e he=>(dn_skip fun hv=>bn e he hv).symm] at a0
              have ck:=ag fb S
              clear co bv t
              generalize Mesh.vt T c=q at *
              obtain ⟨ae,ap,d6,bw,bg,d8,ie,b1⟩:=zz8 D a0 av S ag ck bn U;clear D a0 av S ag ck bn U
              go_wp2_with fail
              all_goals first | (exfalso;omega) | skip
              exact ⟨⟨c+1,fb,by omega,by rw [az],rfl,by simp,d8.out,ap.out,a5⟩,by simp [intOf];omega⟩
            ·obtain rfl:m=c:=by omega
             have a0:=D
             rw [labs_congr (g:=dn T nn G (v+1) 0 0) fun e he=>dn_next (gw.out e he)] at a0
             have ce:=gv.out
             obtain ⟨ae,ap,bw⟩:=zz3 D a0 S;clear D a0 S
             go_wp2_with fail
             all_goals first | (exfalso;omega) | skip
             exact ⟨⟨v+1,by omega,by rw [ce],by simp,ap.out,a5⟩,by simp [intOf];omega⟩
          ·obtain rfl:n=v:=by omega
           have a0:Bk wv L.heap.size 3 (ivals ((List.range m).map (newN (n:Int) T C))):=by
            have e:ivals ((List.range m).map (newN (n:Int) T C))=labs m (dn T nn G n 0 0):=by
             unfold ivals labs
             rw [List.map_map]
             refine List.map_congr_left fun c hc=>?_
             have hc:=List.mem_range.1 hc
             show Value.int .i64 (newN (n:Int) T C c)=.int .i64 (dn T nn G n 0 0 c:Int)
             rw [dn_end O.out (by omega),db.out c hc]
            rw [e];exact D
           have fr:=aw.trans ((a8.trans ((bs.trans (c2.mono k9)).mono kc)).mono (by omega))
           obtain ⟨ae,ap⟩:=zz2 D a0;clear D a0
           go_wp2_with fail
           all_goals first | (exfalso;omega) | skip
           go_ret
           rw [j4.out,<- b5.out]
           exact ⟨⟨L.heap.size,rfl,ap.out⟩,fr⟩
end Go.Proofs.YtpbdcppaiafbgaaGreat
