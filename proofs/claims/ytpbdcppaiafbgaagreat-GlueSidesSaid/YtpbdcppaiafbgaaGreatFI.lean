/- Walks: certify.Is; sew.Sew's parts. -/
import Derived.Laws.EntriesVeiled
import Derived.Test.YtpbdcppaiafbgaaGreatFH
import Derived.Test.YtpbdcppaiafbgaaGreatBM
import Derived.Test.YtpbdcppaiafbgaaGreatEC
set_option maxRecDepth 100000
set_option maxHeartbeats 8000000
namespace Go.Mesh
def tabL (f:Nat->Int) (k n:Nat):List Int:=(List.range n).map fun v=>if v<k then f v else 0
theorem tabL_len (f:Nat->Int) (k n:Nat):(tabL f k n).length=n:=by unfold tabL;simp
theorem tabL_zero (f:Nat->Int) (n:Nat):tabL f 0 n=List.replicate n 0:=by
 unfold tabL
 apply List.ext_getElem?
 intro j
 rw [List.getElem?_map,List.getElem?_replicate]
 by_cases a:j<n
 ·rw [List.getElem?_range a,if_pos a];simp
 ·rw [List.getElem?_eq_none (by simp;omega),if_neg a];rfl
theorem tabL_at (f:Nat->Int) (k:Nat) {n v:Nat} (h:v<n):(tabL f k n)[v]? = some (if v<k then f v else 0):=by
 unfold tabL
 rw [List.getElem?_map,List.getElem?_range h];rfl
theorem tabL_set (f:Nat->Int) {k n:Nat} (h:k<n):(tabL f k n).set k (f k)=tabL f (k+1) n:=by
 apply List.ext_getElem?
 intro j
 rw [List.getElem?_set,tabL_len]
 by_cases b:j<n
 ·rw [tabL_at f _ b,tabL_at f _ b]
  by_cases c:k=j
  ·subst c
   rw [if_pos rfl,if_pos h,if_pos (by omega)]
  ·rw [if_neg c]
   by_cases a:j<k
   ·rw [if_pos a,if_pos (by omega)]
   ·rw [if_neg a,if_neg (by omega)]
 ·rw [List.getElem?_eq_none (by rw [tabL_len];omega),List.getElem?_eq_none (by rw [tabL_len];omega)]
  by_cases a:k=j
  ·omega
  ·rw [if_neg a]
theorem tabL_full (f:Nat->Int) (n:Nat):tabL f n n=(List.range n).map f:=by
 unfold tabL
 apply List.map_congr_left
 intro v a
 rw [if_pos (List.mem_range.1 a)]
theorem placed_zero {has:Int × Int->Bool} {l:List P4} (h:placedN has l=0):(∀ e∈edgs l,has e=true)/\(edgs l).Nodup:=by
 unfold placedN at h
 split at h
 ·rename_i h1
  split at h
  ·rename_i h2
   exact ⟨List.all_eq_true.1 h1,h2⟩
  ·cases h
 ·cases h
theorem mem_edgs {l:List P4} {p:P4} (hp:p∈l):p.1∈edgs l/\p.2∈edgs l:=⟨List.mem_flatMap.2 ⟨p,hp,by simp⟩,List.mem_flatMap.2 ⟨p,hp,by simp⟩⟩
theorem labE_take {l:List P4} {k:Nat} {p:P4} (h:l[k]? = some p):labE (edP (l.take (k+1)))=mrg (mrg (labE (edP (l.take k))) p.1.1 p.2.2) p.1.2 p.2.1:=by
 obtain ⟨a,rfl⟩:=List.getElem?_eq_some_iff.1 h
 rw [List.take_succ_eq_append_getElem a]
 have:edP (l.take k++[l[k]])=(edP (l.take k)++[(l[k].1.1,l[k].2.2)])++[(l[k].1.2,l[k].2.1)]:=by
  unfold edP;rw [List.flatMap_append,List.append_assoc];rfl
 rw [this,labE_snoc,labE_snoc]
theorem surf_tri {N:Int} {T:List T3} (hs:Surf N T):∀ t∈T,(0<=t.1/\t.1<N)/\(0<=t.2.1/\t.2.1<N)/\(0<=t.2.2/\t.2.2<N):=fun t ht=>by
 obtain ⟨i,d,rfl⟩:=mem_triAt ht
 have a:=hs.rng (3 * i+0) (by omega)
 have b:=hs.rng (3 * i+1) (by omega)
 have c:=hs.rng (3 * i+2) (by omega)
 rw [corner_at T i 0 (by omega)] at a
 rw [corner_at T i 1 (by omega)] at b
 rw [corner_at T i 2 (by omega)] at c
 exact ⟨a,b,c⟩
theorem mem_edPF {l:List P4} {e:Int × Int} (h:e∈edP l):∃ p∈l,e=(p.1.1,p.2.2)\/e=(p.1.2,p.2.1):=by
 obtain ⟨p,b,a⟩:=List.mem_flatMap.1 h
 refine ⟨p,b,?_⟩
 simpa using a
end Go.Mesh
namespace Go.Words
open Go Go.RowKit Go.Mesh
theorem ret_ctt {P:Program} {fn:Func} {p q r:Tmp} {ty:TypeId} (h:fn.results=#[.cell q ty,.tmp p,.tmp r]) {R:Ending->World->Prop} {a:Act} {w:World} {g:Nat} {t:TypeId} {cs:List Value} {d:TypeDesc}
  (hp:a.tmps.getD q undef=.pointer (some ⟨g,0,none⟩)) (hg:Bk w g t cs) (hu:P.underlying ty=some d)
  (hd:(match d with | .struct _ | .array _ _=>true | _=>false)=true) (hi:(P.info? ty).map (·.size)=some cs.length) (hde:a.defers=[])
  (hR:R (.returned (.tuple #[.agg cs.toArray,a.tmps.getD p undef,a.tmps.getD r undef])) w):bodyPost P fn R .ret a w:=by
 refine bodyPost_ret ?_ hde hR
 have b:a.tmps[q]?.getD undef=.pointer (some ⟨g,0,none⟩):=by simpa using hp
 simp [results,h,b,asAddr,run_loadVar_row w g t ty cs.toArray (0,0) d hg hu hd (by simpa using hi)]
end Go.Words
namespace Go.Proofs.YtpbdcppaiafbgaaGreat
open Go Go.RowKit Go.Words Go.Mesh
theorem sl_zv {w:World} {g:Nat} {t:TypeId} {l:List Int} (h:Bk w g t (l.map (Value.int .i64))):Sl 1 RInt w w.heap.size (.slice (some ⟨g,0,none⟩) l.length l.length) l :=
 Sl.of_block h (Nat.le_refl _) fun i a hi=>by
  obtain ⟨b,rfl⟩:=List.getElem?_eq_some_iff.1 hi
  refine ⟨by rw [List.length_map];omega,?_⟩
  unfold RInt
  rw [Nat.mul_one,List.drop_eq_getElem_cons (by simpa using b)]
  simp
def labP (l:List P4):Int->Int:=labE (edP l)
def NoSew (x o:Value):Prop:=x=.agg #[.int .i64 0,.slice none 0 0]/\o=.slice none 0 0
def SewEnd (w':World) (N:Int) (T:List T3) (l:List P4) (x o:Value) (c:Int):Prop :=
 (¬ Surf N T/\c=11/\NoSew x o) \/
 (Surf N T/\c=placedN (fun e=>decide (e∈bedges T)) l/\c≠0/\NoSew x o) \/
 (Surf N T/\placedN (fun e=>decide (e∈bedges T)) l=0/\¬ Surf (rnk (labP l) N.toNat:Nat) (sewT (labP l) T)/\c=11/\NoSew x o) \/
 (Surf N T/\placedN (fun e=>decide (e∈bedges T)) l=0/\Surf (rnk (labP l) N.toNat:Nat) (sewT (labP l) T)/\c=0 /\
  ∃ xs,x=.agg #[.int .i64 (rnk (labP l) N.toNat:Nat),xs]/\Sl 3 RTri w' w'.heap.size xs (sewT (labP l) T)/\Sl 1 RInt w' w'.heap.size o (sewOf (labP l) N.toNat))
theorem own_from {w wz:World} {base n size:Nat} {e:TypeId} {v:Value} {xs:List Value} (h:w.ownsRow base e size v n xs) (hb:∀ b,base<=b->b<w.heap.size->wz.heap[b]? = w.heap[b]?):wz.ownsRow base e size v n xs:=by
 refine ⟨h.1,?_⟩
 rcases h.2 with i | ⟨g,a,c,j,d,f,k⟩
 ·exact .inl i
 ·exact .inr ⟨g,a,c,j,d,(hb g d (Array.getElem?_eq_some_iff.1 f).1).trans f,k⟩
def SewFar (w w':World) (N:Int) (T:List T3) (l:List P4) (x o:Value) (c:Int):Prop :=
 c=0->∀ wz:World,(∀ b,w.heap.size<=b->b<w'.heap.size->wz.heap[b]? = w'.heap[b]?) ->
  ∃ xs,x=.agg #[.int .i64 (rnk (labP l) N.toNat:Nat),xs]/\Sl 3 RTri wz wz.heap.size xs (sewT (labP l) T)/\Sl 1 RInt wz wz.heap.size o (sewOf (labP l) N.toNat)
theorem sew_calls2 {w:World} {B:Nat} {sv lv:Value} {N:Int} {T:List T3} {l:List P4} (hT:Sl 3 RTri w B sv T) (hl:Sl 4 R4 w B lv l) (hB0:B<=w.heap.size) (hN:I64 N) (hll:l.length<=1000000) (hok:∀ e∈edgs l,ok2 e) :
  Calls Tryz.prog 56 #[.agg #[.int .i64 N,sv],lv] w fun e w'=>(∃ (x o:Value) (c:Int),e=.returned (.tuple #[x,o,.int .i64 c])/\SewEnd w' N T l x o c/\SewFar w w' N T l x o c)/\Below w.heap.size w w':=by
 obtain ⟨A,D,rfl,nh⟩:=hT.form
 obtain ⟨A2,n5,rfl,ml⟩:=hl.form
 have fc:=((Below.refl w.heap.size w).alloc (Nat.le_refl _) (.cells #[.int .i64 N,.slice A T.length D] 24)).alloc (by simp) (.cells #[.int .i64 0,.slice none 0 0] 24)
 have dy:=(Bk.new w 24 [.int .i64 N,.slice A T.length D]).alloc (.cells #[.int .i64 0,.slice none 0 0] 24)
 have j0:=Bk.new' (n:=w.heap.size+1) (w:=w.alloc (.cells #[.int .i64 N,.slice A T.length D] 24)) 24 [.int .i64 0,.slice none 0 0] (by simp)
 have f8:=hT.below keeps_tri (fc.mono hB0)
 have j6:=hl.below keeps_4 (fc.mono hB0)
 have om:w.heap.size+2<=((w.alloc (.cells #[.int .i64 N,.slice A T.length D] 24)).alloc (.cells #[.int .i64 0,.slice none 0 0] 24)).heap.size:=by simp
 generalize ls:(w.alloc (.cells #[.int .i64 N,.slice A T.length D] 24)).alloc (.cells #[.int .i64 0,.slice none 0 0] 24)=w0 at *
 have ix:=certis_calls (.slice A T.length D) N T w0 (B:=B) (by omega) f8 hN
 have c0:w0.cell? ⟨w.heap.size,0,none⟩=some (.int .i64 N):=dy.cell 0
 have c1:w0.cell? ⟨w.heap.size,1,none⟩=some (.slice A T.length D):=dy.cell 1
 obtain ⟨o7,o8,js,jt,jj,jz,jn,ka⟩:=zz8 hT hl dy j0 f8 j6 ix hok;clear hT hl dy j0 f8 j6 ix hok
 go_enter Tryz.func56,Tryz.ntmps56
 go_wp2_with fail
 clear ls
 refine jn.out.mono ?_
 rintro e w1 ⟨⟨b,rfl,F⟩,bj⟩
 have on:=bj.size
 have dt:=fc.trans (bj.mono (by omega))
 have an:=js.out.below bj (by omega)
 have U:=jt.out.below bj (by omega)
 cases b with
 | false =>
  have hn:¬ Surf N T:=fun h=>by have:=F.2 h;cases this
  have f1:=U.frozen
  have e0:w1.cell? ⟨w.heap.size+1,0,none⟩=some (.int .i64 0):=U.cell 0
  have e1:w1.cell? ⟨w.heap.size+1,1,none⟩=some (.slice none 0 0):=U.cell 1
  have Q:=(dt.setCell (p:=⟨w.heap.size+1,0,none⟩) (by simp) (.int .i64 0)).setCell (p:=⟨w.heap.size+1,1,none⟩) (by simp) (.slice none 0 0)
  have W:=(U.set 0 (.int .i64 0)).set 1 (.slice none 0 0)
  obtain ⟨el,ep,bu,bv,a9,aa⟩:=zz6 F hn an U Q W;clear F hn an U Q W
  go_wp2_with fail
  exact ret_ctt rfl rfl aa.out Tryz.underlying24 rfl (by kernel_rfl) rfl ⟨⟨_,_,_,rfl,.inl ⟨ep.out,rfl,rfl,rfl⟩,fun K=>(by cases K)⟩,a9.out⟩
 | true =>
  have hs:=F.1 rfl
  have f9:=jj.out.below keeps_tri (bj.mono (by omega))
  have j7:=jz.out.below keeps_4 (bj.mono (by omega))
  have ja:=new_calls (.slice A T.length D) N T w1 (B:=B) (by omega) f9 hN
  have d0:w1.cell? ⟨w.heap.size,0,none⟩=some (.int .i64 N):=an.cell 0
  have d1:w1.cell? ⟨w.heap.size,1,none⟩=some (.slice A T.length D):=an.cell 1
  obtain ⟨el,a6,bu,bv,jk,k5,k9⟩:=zz7 F hs an U f9 j7 ja;clear F hs an U f9 j7 ja
  go_wp2_with fail
  refine k9.out.mono ?_
  rintro e w2 ⟨⟨pv,x,y,z,rfl,lp⟩,au⟩
  rcases lp with ⟨hs,c8⟩ | ⟨lo,rfl⟩
  case inr=>exact absurd a6.out lo
  obtain ⟨t,rfl⟩:∃ t,pv=.pointer t:=by
   obtain ⟨g,_,_,_,_,_,rfl,_⟩:=c8
   exact ⟨_,rfl⟩
  have oo:=au.size
  have ie:=dt.trans (au.mono (by omega))
  have fq:=bu.out.below au bu.out.lt
  have fs:=bv.out.below au bv.out.lt
  have fa:=jk.out.below keeps_tri (au.mono (by omega))
  have g7:=k5.out.below keeps_4 (au.mono (by omega))
  have it:=((Below.refl w2.heap.size w2).alloc (Nat.le_refl _) (.cells #[.int .i64 x,.int .i64 y,.int .i64 z] 48)).alloc (by simp) (.map #[] 0)
  have ga:=Mp.new' (enc:=enc2) (ok:=ok2) (ev:=enc1) (n:=w2.heap.size+1) (w:=w2.alloc (.cells #[.int .i64 x,.int .i64 y,.int .i64 z] 48)) (by simp)
  have op:w2.heap.size+2<=((w2.alloc (.cells #[.int .i64 x,.int .i64 y,.int .i64 z] 48)).alloc (.map #[] 0)).heap.size:=by simp
  have lm:=@run_makeMap Tryz.prog
  generalize lu:(w2.alloc (.cells #[.int .i64 x,.int .i64 y,.int .i64 z] 48)).alloc (.map #[] 0)=w3 at *
  have iy:=bedges_calls (TabN.below (.inl c8) it (Nat.le_refl _)) hs
  have gh:∀ e∈bedges T,ok2 e:=fun e he=>by
   obtain ⟨c,h1,_,rfl⟩:=mem_bedges.1 he
   exact eg_ok hs h1
  have nl:(bedges T).length<=24576:=by have:=bord_len T;have:=hs.tmax;unfold bedges;rw [List.length_map];omega
  have ol:=hs.tmax
  have og:=hs.n0
  have oh:=hs.nmax
  generalize hL:bedges T=L at *
  obtain ⟨a6,mj,dj,dl,gw,dp,i5,jo,i8,dg⟩:=zz10 hs c8 fq fs fa g7 ga iy gh hL;clear hs c8 fq fs fa g7 ga iy gh hL
  go_wp2_with fail
  clear lu lm
  refine jo.out.mono ?_
  rintro e w4 ⟨⟨r,rfl,C⟩,bl⟩
  obtain ⟨A3,kk,rfl,mm⟩:=own_form C
  have oq:=bl.size
  have lh:=it.trans (bl.mono (by omega))
  have j9:=i5.out.below bl (by omega)
  obtain ⟨af,k7⟩:=zz2 C j9;clear C j9
  go_wp2_with fail
  go_loopw [37] (fun i wr=>∃ (k:Nat) (m:List ((Int × Int) × Int)),k<=L.length/\i=.int .i64 k/\Mp enc2 ok2 enc1 wr (w2.heap.size+1) m/\(∀ e,(Words.look m e).isSome=true↔e∈L.take k)/\Below w2.heap.size w2 wr/\wr.ownsRow w3.heap.size 39 2 (.slice A3 L.length kk) L.length (pvals L)) (fun i _=>L.length - (intOf i).toNat)
  case atStart=>exact ⟨0,[],by omega,rfl,k7.out,fun e=>by simp [Words.look],lh,af.out⟩
  case round =>
   obtain ⟨k,m,hk,rfl,bb,ba,O,a5⟩:=hrel
   have hz:=O.size
   have oe:=bb.lt
   by_cases fw:k<L.length
   ·obtain ⟨b,o,rfl,F,a1,a2⟩:=(sl_own_pairs a5).pair_at fw
    have bn:b<wr.heap.size:=by omega
    have bg:=List.take_succ_eq_append_getElem fw
    have hr:=i8.out _ (List.getElem_mem fw)
    generalize L[k]=ed at *
    obtain ⟨x1,x2⟩:=ed
    simp only [] at a1 a2
    have iw:=O.alloc hz (.cells #[.int .i64 x1,.int .i64 x2] 39)
    have j8:=bb.alloc (.cells #[.int .i64 x1,.int .i64 x2] 39)
    have jb:=a5.alloc (.cells #[.int .i64 x1,.int .i64 x2] 39)
    have je:∀ e,(Words.look (Words.put m (x1,x2) (k:Int)) e).isSome=true↔e∈L.take (k+1):=fun e=>by
     rw [look_put,bg]
     by_cases K:(x1,x2)=e
     ·rw [if_pos K];simp [K]
     ·rw [if_neg K,ba e,List.mem_append,List.mem_singleton]
      exact ⟨.inl,fun h8=>h8.resolve_right fun h7=>K h7.symm⟩
    obtain ⟨k8,et,ey,l2,eo,eq,ke,k6⟩:=zz8 bb a5 bg hr j8 jb je ba;clear bb a5 bg hr j8 jb je ba
    go_wp2_with (at_mapUpdate;refine wpList_put _ rfl _ _ _ 118 rfl 39 3 keyE Tryz.underlying118 (w2.heap.size+1) m rfl eo.out (x1,x2) rfl l2.out (k:Int) rfl ?_;intro w5 gb am kp;obtain ⟨i6,bt⟩:=zz2 gb am;clear gb am;clear kp)
    have au:=iw.grown bt.out iw.size (fun q hq=>by cases hq;omega)
    refine ⟨⟨k+1,_,by omega,by simp,i6.out,ke.out,au,eq.out.kept bt.out (.inr ?_)⟩,by simp [intOf];omega⟩
    exact (eo.out.no_row eq.out).symm
   ·obtain rfl:k=L.length:=by omega
    rw [List.take_length] at ba
    obtain ⟨w5,lw⟩:∃ w5,w5=wr:=⟨_,rfl⟩
    subst lw
    have e7:=placed_calls m bb (dp.out.below keeps_4 (O.mono (by omega))) (by omega) hll ka.out
    have fm:(fun e=>(Words.look m e).isSome)=(fun e=>decide (e∈L)):=funext fun e=>by
     rw [Bool.eq_iff_iff,ba e,decide_eq_true_eq]
    rw [fm] at e7
    have du:=ie.trans (O.mono (by omega))
    have fr:=dj.out.below O dj.out.lt
    have ft:=dl.out.below O dl.out.lt
    obtain ⟨c,hc⟩:∃ c,placedN (fun e=>decide (e∈L)) l=c:=⟨_,rfl⟩
    rw [hc] at e7
    obtain ⟨k8,et,k6,kb,mq,io,dk,dm⟩:=zz8 bb a5 ba e7 fm hc fr ft;clear bb a5 ba e7 fm hc fr ft
    go_wp2_with fail
    refine kb.out.mono ?_
    rintro e f ⟨rfl,bm⟩
    have os:=bm.size
    have Z:=du.trans (bm.mono du.size)
    have ao:=dk.out.below bm dk.out.lt
    have V:=dm.out.below bm dm.out.lt
    by_cases dw:c=0
    ·subst dw
     have gg:=io.out
     have bx:=placed_zero gg
     have ip:f.cell? ⟨w.heap.size,0,none⟩=some (.int .i64 N):=ao.cell 0
     have l5:f.cell? ⟨w.heap.size,1,none⟩=some (.slice A T.length D):=ao.cell 1
     have cm:∀ p∈l,(0<=p.1.1/\p.1.1<N)/\(0<=p.1.2/\p.1.2<N)/\(0<=p.2.1/\p.2.1<N)/\(0<=p.2.2/\p.2.2<N):=fun p hp=>by
      have q1:=bx.1 _ (mem_edgs hp).1
      have q2:=bx.1 _ (mem_edgs hp).2
      rw [decide_eq_true_eq,<- dg.out] at q1 q2
      obtain ⟨c1,g1,_,g2⟩:=mem_bedges.1 q1
      obtain ⟨c2,g3,_,g4⟩:=mem_bedges.1 q2
      rw [<- g2,<- g4]
      exact ⟨a6.out.rng _ (nx_lt g1),a6.out.rng _ (pv_lt g1),a6.out.rng _ (nx_lt g3),a6.out.rng _ (pv_lt g3)⟩
     obtain ⟨n,f6⟩:∃ n:Nat,N=n:=⟨N.toNat,by omega⟩
     have ln:n<=4096:=by omega
     rw [f6] at ip cm
     have ir:∀ k,∀ e∈edP (l.take k),0<=e.1/\0<=e.2:=fun k e he=>by
      obtain ⟨p,hp,h1 | h1⟩:=mem_edPF he
      ·have:=cm p (List.mem_of_mem_take hp);rw [h1];exact ⟨this.1.1,this.2.2.2.1⟩
      ·have:=cm p (List.mem_of_mem_take hp);rw [h1];exact ⟨this.2.1.1,this.2.2.1.1⟩
     have fb:=(gw.out.below keeps_tri (O.mono (by omega))).below keeps_tri (bm.mono (by omega))
     have g8:=(dp.out.below keeps_4 (O.mono (by omega))).below keeps_4 (bm.mono (by omega))
     have iq:B<=f.heap.size:=by omega
     have g9:=run_make_rep (P:=Tryz.prog) 28 Tryz.underlying28 info_int rfl n (by omega) (by omega)
     have d9:=Bk.new f 3 (List.replicate n (.int .i64 0))
     rw [List.toArray_replicate] at d9
     have fv:=d9.alloc (.cells #[.slice (some ⟨f.heap.size,0,none⟩) n n] 28)
     have j5:=Bk.new' (n:=f.heap.size+1) (w:=f.alloc (.cells (Array.replicate n (Value.int .i64 0)) 3)) 28 [.slice (some ⟨f.heap.size,0,none⟩) n n] (by simp)
     have iu:=((Below.refl f.heap.size f).alloc (Nat.le_refl _) (.cells (Array.replicate n (Value.int .i64 0)) 3)).alloc (by simp) (.cells #[.slice (some ⟨f.heap.size,0,none⟩) n n] 28)
     have ot:f.heap.size+2<=((f.alloc (.cells (Array.replicate n (Value.int .i64 0)) 3)).alloc (.cells #[.slice (some ⟨f.heap.size,0,none⟩) n n] 28)).heap.size:=by simp
     have gl:(tabL (fun v=>(v:Int)) 0 n).map (Value.int .i64)=List.replicate n (.int .i64 0):=by rw [tabL_zero,List.map_replicate]
     rw [<- gl] at fv
     clear d9
     obtain ⟨hh,dn,eu,m9,kf,eh,gx,i4,jv,jy,jl,mu⟩:=zz12 ao V gg bx cm ir fb g8 fv j5 iu gl;have ei:=zz f6;clear ao V gg bx cm ir fb g8 fv j5 iu gl f6
     go_wp2_with fail
     clear g9
     go_loopw [58] (fun i wr=>∃ k:Nat,k<=n/\i=.int .i64 (k:Int)/\Bk wr f.heap.size 3 ((tabL (fun v=>(v:Int)) k n).map (Value.int .i64))/\Bk wr (f.heap.size+1) 28 [.slice (some ⟨f.heap.size,0,none⟩) n n]/\Below f.heap.size f wr) (fun i _=>n - (intOf i).toNat)
     case atStart=>exact ⟨0,by omega,rfl,jv.out,jy.out,jl.out⟩
     case round =>
      obtain ⟨k,hk,rfl,H,X,fh⟩:=hrel
      have m0:=fh.size
      have cr:=X.cell 0
      simp only [List.getElem?_cons_zero] at cr
      by_cases j2:k<n
      ·have ck:=H.cell k
       rw [List.getElem?_map,tabL_at _ _ j2,Option.map_some] at ck
       generalize (if k<k then ((fun v:Nat=>(v:Int)) k) else 0)=jh at *
       have fk:=H.frozen k
       have da:=H.set k (.int .i64 (k:Int))
       rw [<- List.map_set,tabL_set (fun v:Nat=>(v:Int)) j2] at da
       have fx:=X.far (p:=⟨f.heap.size,k,none⟩) (by simp) (.int .i64 (k:Int))
       have iv:=fh.setCell (p:=⟨f.heap.size,k,none⟩) (Nat.le_refl _) (.int .i64 (k:Int))
       obtain ⟨ho,hy,hi,hu,jm⟩:=zz5 H X da fx iv;clear H X da fx iv
       go_wp2_with fail
       exact ⟨⟨k+1,by omega,by simp,hi.out,hu.out,jm.out⟩,by simp [intOf];omega⟩
      ·obtain rfl:k=n:=by omega
       obtain ⟨w7,lx⟩:∃ w7,w7=wr:=⟨_,rfl⟩
       subst lx
       rw [tabL_full] at H
       have od:∀ (fn:Fn) (first D:Array Value) (w:World),(Instr.makeFunc fn first D).run Tryz.prog w=.ok (.func fn first D) w:=fun _ _ _ _=>rfl
       have nn:=X.lt
       have db:=H.alloc (.cells #[.func (.func 100) #[] #[.pointer (some ⟨f.heap.size+1,0,none⟩),.pointer (some ⟨w7.heap.size,0,none⟩)]] 52)
       have c6:=X.alloc (.cells #[.func (.func 100) #[] #[.pointer (some ⟨f.heap.size+1,0,none⟩),.pointer (some ⟨w7.heap.size,0,none⟩)]] 52)
       have c5:=Bk.new w7 52 [.func (.func 100) #[] #[.pointer (some ⟨f.heap.size+1,0,none⟩),.pointer (some ⟨w7.heap.size,0,none⟩)]]
       have iz:FindW (w7.alloc (.cells #[.func (.func 100) #[] #[.pointer (some ⟨f.heap.size+1,0,none⟩),.pointer (some ⟨w7.heap.size,0,none⟩)]] 52)) (f.heap.size+1) w7.heap.size f.heap.size ((List.range k).map fun v:Nat=>(v:Int)) :=
        ⟨by rw [List.length_map,List.length_range];exact c6.cell 0,c5.cell 0,db,c6.lt,c5.lt⟩
       have fd:=fh.alloc m0 (.cells #[.func (.func 100) #[] #[.pointer (some ⟨f.heap.size+1,0,none⟩),.pointer (some ⟨w7.heap.size,0,none⟩)]] 52)
       obtain ⟨ho,hy,mf,mi,mg,jp,gy⟩:=zz7 H X db c6 c5 iz fd;clear H X db c6 c5 iz fd
       go_wp2_with fail
       have lb:∃ G,labP l=G:=⟨_,rfl⟩
       go_loopw [70] (fun i wr=>∃ (j:Nat) (R:List Int),j<=l.length/\i=.int .i64 (j:Int)/\Roots R (labE (edP (l.take j))) k/\FindW wr (f.heap.size+1) w7.heap.size f.heap.size R/\Below f.heap.size f wr) (fun i _=>l.length - (intOf i).toNat)
       case atStart=>exact ⟨0,_,by omega,rfl,roots_id k,jp.out,gy.out⟩
       case round =>
        obtain ⟨j,R,hj,rfl,hR,b9,S⟩:=hrel
        have ku:=S.size
        by_cases lj:j<l.length
        ·obtain ⟨p,hp⟩:∃ p,l[j]? = some p:=⟨_,List.getElem?_eq_getElem lj⟩
         obtain ⟨b,o,rfl,F,a1,a2,a3,a4⟩:=(i4.out.below keeps_4 (S.mono iq)).p4_at hp
         have hv:=kf.out p (List.mem_of_getElem? hp)
         have dc:=labE_take hp
         obtain ⟨⟨x1,x2⟩,x3,x4⟩:=p
         simp only [] at a1 a2 a3 a4 hv dc
         obtain ⟨⟨p1,q1⟩,⟨p2,q2⟩,⟨p3,q3⟩,p4,q4⟩:=hv
         obtain ⟨n1,rfl⟩:∃ m:Nat,x1=(m:Int):=⟨x1.toNat,by omega⟩
         obtain ⟨n2,rfl⟩:∃ m:Nat,x2=(m:Int):=⟨x2.toNat,by omega⟩
         obtain ⟨n3,rfl⟩:∃ m:Nat,x3=(m:Int):=⟨x3.toNat,by omega⟩
         obtain ⟨n4,rfl⟩:∃ m:Nat,x4=(m:Int):=⟨x4.toNat,by omega⟩
         have bn:b<wr.heap.size:=by omega
         have M:=labE_lab (edP (l.take j))
         have h0:=labE_nonneg (eh.out j)
         generalize labE (edP (l.take j))=L0 at *
         have d5:=b9.below ((Below.refl wr.heap.size wr).alloc (Nat.le_refl _) (.cells #[.int .i64 (n1:Int),.int .i64 (n2:Int),.int .i64 (n3:Int),.int .i64 (n4:Int)] 41))
         have gf:=one_calls hR M h0 (f.heap.size+1) w7.heap.size f.heap.size (by omega) (by omega) n1 n4 (by omega) (by omega) _ d5
         have f4:∀ v,0<=v->0<=mrg L0 n1 n4 v:=fun v hv=>by
          have i1:=h0 n1 p1
          have i2:=h0 n4 p4
          have i3:=h0 v hv
          unfold mrg
          split <;> omega
         have e3:=fun R1 (cd:Roots R1 (mrg L0 (n1:Int) n4) k) wz (hz:FindW wz (f.heap.size+1) w7.heap.size f.heap.size R1)=>one_calls cd (M.mrg _ _) f4 (f.heap.size+1) w7.heap.size f.heap.size (by omega) (by omega) n2 n3 (by omega) (by omega) wz hz
         have j3:=Bk.new wr 41 [.int .i64 (n1:Int),.int .i64 (n2:Int),.int .i64 (n3:Int),.int .i64 (n4:Int)]
         have fe:=S.alloc ku (.cells #[.int .i64 (n1:Int),.int .i64 (n2:Int),.int .i64 (n3:Int),.int .i64 (n4:Int)] 41)
         have ni:=b9.bk.lt
         have ko:some wr.heap.size≠some f.heap.size:=fun K=>by injection K with K;omega
         obtain ⟨im,br,il,mo,ma,i7,er,jx,dh,i0⟩:=zz10 hR M h0 f4 d5 gf e3 j3 fe dc;clear hR M h0 f4 d5 gf e3 j3 fe dc
         go_wp2_with fail
         refine i7.out.mono ?_
         rintro e ah ⟨rfl,⟨R1,cd,d6⟩,c4⟩
         have ap:=jx.out.grown c4 ko
         have ff:=dh.out.grown c4 dh.out.size (fun q hq=>by cases hq;exact Nat.le_refl _)
         have k0:ah.cell? ⟨wr.heap.size,0,none⟩=some (.int .i64 (n1:Int)):=ap.cell 0
         have k1:ah.cell? ⟨wr.heap.size,1,none⟩=some (.int .i64 (n2:Int)):=ap.cell 1
         have k2:ah.cell? ⟨wr.heap.size,2,none⟩=some (.int .i64 (n3:Int)):=ap.cell 2
         have k3:ah.cell? ⟨wr.heap.size,3,none⟩=some (.int .i64 (n4:Int)):=ap.cell 3
         have gj:=er.out R1 cd ah d6
         obtain ⟨mp,mb,me,mh,di,i9⟩:=zz6 cd d6 c4 ap ff gj;clear cd d6 c4 ap ff gj
         go_wp2_with fail
         refine i9.out.mono ?_
         rintro e m5 ⟨rfl,⟨R2,f7,fo⟩,am⟩
         have fg:=di.out.grown am di.out.size (fun q hq=>by cases hq;exact Nat.le_refl _)
         rw [<- i0.out] at f7
         obtain ⟨ji,hf,bt,gz⟩:=zz4 f7 fo am fg;clear f7 fo am fg
         go_wp2_with fail
         exact ⟨⟨j+1,R2,by omega,by simp,ji.out,hf.out,gz.out⟩,by simp [intOf];omega⟩
        ·obtain rfl:j=l.length:=by omega
         rw [List.take_length] at hR
         obtain ⟨d,ly⟩:∃ d,d=wr:=⟨_,rfl⟩
         subst ly
         have M:=labE_lab (edP l)
         have h0:=labE_nonneg (E:=edP l) (by have:=eh.out l.length;rwa [List.take_length] at this)
         obtain ⟨G,hG⟩:=lb
         change labE (edP l)=G at hG
         rw [hG] at hR M h0
         have d0:d.cell? ⟨w.heap.size,0,none⟩=some (.int .i64 (k:Int)):=(S.cell (p:=⟨w.heap.size,0,none⟩) (by show w.heap.size<_;omega)).trans ip
         have d1:d.cell? ⟨w.heap.size,1,none⟩=some (.slice A T.length D):=(S.cell (p:=⟨w.heap.size,1,none⟩) (by show w.heap.size<_;omega)).trans l5
         have g9:=run_make_rep (P:=Tryz.prog) 28 Tryz.underlying28 info_int rfl k (by omega) (by omega)
         have d8:=Bk.new d 3 (List.replicate k (.int .i64 0))
         rw [List.toArray_replicate] at d8
         have fu:=d8.alloc (.cells #[.int .i64 0,.slice none 0 0] 24)
         have j1:=Bk.new' (n:=d.heap.size+1) (w:=d.alloc (.cells (Array.replicate k (Value.int .i64 0)) 3)) 24 [.int .i64 0,.slice none 0 0] (by simp)
         have d3:=((Below.refl d.heap.size d).alloc (Nat.le_refl _) (.cells (Array.replicate k (Value.int .i64 0)) 3)).alloc (by simp) (.cells #[.int .i64 0,.slice none 0 0] 24)
         have fp:=b9.below d3
         have de:(tabL (fun u=>numL G (u:Int)) 0 k).map (Value.int .i64)=List.replicate k (.int .i64 0):=by rw [tabL_zero,List.map_replicate]
         rw [<- de] at fu
         clear d8
         obtain ⟨im,br,il,bs,md,ju,jw,h3,mk,ar⟩:=zz10 hR M h0 b9 fp fu j1 d3 de hG;clear hR M h0 b9 fp fu j1 d3 de hG
         go_wp2_with fail
         clear g9
         go_loopw [97] (fun i wz=>∃ v:Nat,v<=k/\i=.int .i64 (v:Int)/\Bk wz d.heap.size 3 ((tabL (fun u=>numL G (u:Int)) v k).map (Value.int .i64))/\Bk wz (d.heap.size+1) 24 [.int .i64 (rnk G v:Nat),.slice none 0 0]/\Below d.heap.size d wz) (fun i _=>k - (intOf i).toNat)
         case atStart=>exact ⟨0,by omega,rfl,ju.out,jw.out,h3.out⟩
         case round =>
          obtain ⟨v,hv,rfl,kO,kU,bo⟩:=hrel
          have jf:=bo.size
          have oa:=kU.lt
          by_cases gn:v<k
          ·have a0:=find_calls im.out (f.heap.size+1) w7.heap.size f.heap.size v gn
           have ll:=br.out.le v
           have ci:=br.out.idem v
           have li:=il.out v (by omega)
           have cl:=rnk_succ G v
           have Y:=tabL_set (fun u=>numL G (u:Int)) gn
           have cj:numL G (v:Int)=((rnk G (G (v:Int)).toNat:Nat):Int):=rfl
           obtain ⟨a,ha⟩:∃ a:Nat,G (v:Int)=a:=⟨(G v).toNat,by omega⟩
           have cg:=tabL_at (fun u=>numL G (u:Int)) v (v:=a) (n:=k) (by omega)
           have gd:numL G (a:Int)=numL G (v:Int):=by unfold numL;rw [<- ha,ci]
           rw [ha] at a0 ll li cj
           rw [Int.toNat_natCast] at cj
           have bp:=bs.out.below bo
           have dx:=a0 wr bp
           have o9:=bp.find
           by_cases lg:a=v
           ·subst lg
            rw [if_pos ha] at cl
            have e8:(tabL (fun u=>numL G (u:Int)) a k).set a ((rnk G a:Nat):Int)=tabL (fun u=>numL G (u:Int)) (a+1) k:=by rw [<- cj];exact Y
            have bd:((rnk G (a+1):Nat):Int)=((rnk G a:Nat):Int)+1:=by rw [cl];rfl
            have ld:((a:Int) == (a:Int))=true:=beq_self_eq_true _
            have oj:((rnk G a:Nat):Int)+1<=5000:=by have:=rnk_le G a;omega
            clear cl cj gd Y
            generalize rnk G a=J at *
            obtain ⟨b6,b7,ct,jq,c9,cs,ew,bw,kz,jr⟩:=zz10 kO kU dx bp a0 cg e8 bd ha ci;clear kO kU dx bp a0 cg e8 bd ha ci
            go_wp2_with fail
            refine ct.out.mono ?_
            rintro e ah ⟨rfl,ab⟩
            have av:=b6.out.below ab b6.out.lt
            have aw:=b7.out.below ab b7.out.lt
            have al:=bo.trans (ab.mono jf)
            have cO:=av.cell a
            rw [List.getElem?_map,cs.out,Option.map_some] at cO
            generalize (if a<a then numL G (a:Int) else 0)=jh at *
            have fO:=av.frozen a
            have fU:=aw.frozen 0
            have cU:ah.cell? ⟨d.heap.size+1,0,none⟩=some (.int .i64 (J:Int)):=aw.cell 0
            have a7:=(av.set a (.int .i64 (J:Int))).far (p:=⟨d.heap.size+1,0,none⟩) (by simp) (.int .i64 ((J:Int)+1))
            rw [<- List.map_set,ew.out] at a7
            have bq:=(aw.far (p:=⟨d.heap.size,a,none⟩) (by simp) (.int .i64 (J:Int))).set 0 (.int .i64 ((J:Int)+1))
            have c3:=(al.setCell (p:=⟨d.heap.size,a,none⟩) (Nat.le_refl _) (.int .i64 (J:Int))).setCell (p:=⟨d.heap.size+1,0,none⟩) (Nat.le_succ _) (.int .i64 ((J:Int)+1))
            obtain ⟨cv,cw,ez,f0,h4⟩:=zz5 av aw a7 bq c3;clear av aw a7 bq c3
            go_wp2_with fail
            exact ⟨⟨a+1,by omega,by simp,ez.out,by rw [bw.out];exact f0.out,h4.out⟩,by simp [intOf];omega⟩
           ·rw [if_neg (by rw [ha];omega)] at cl
            have lf:a<v:=by omega
            rw [if_pos lf,gd] at cg
            have ld:((a:Int) == (v:Int))=false:=by rw [beq_eq_false_iff_ne];omega
            have bd:rnk G (v+1)=rnk G v:=by omega
            clear cl cj gd
            generalize numL G (v:Int)=nv at *
            obtain ⟨b6,b7,ct,jq,c9,cs,ia,bw,kz,jr⟩:=zz10 kO kU dx bp a0 cg Y bd ha ci;clear kO kU dx bp a0 cg Y bd ha ci
            go_wp2_with fail
            refine ct.out.mono ?_
            rintro e ah ⟨rfl,ab⟩
            have av:=b6.out.below ab b6.out.lt
            have aw:=b7.out.below ab b7.out.lt
            have al:=bo.trans (ab.mono jf)
            have kt:=al.size
            have fl:=c9.out ah (bs.out.below al)
            have cf:=(bs.out.below al).find
            obtain ⟨cv,cw,hd⟩:=zz3 av aw fl;clear av aw fl
            go_wp2_with fail
            refine hd.out.mono ?_
            rintro e m5 ⟨rfl,d4⟩
            have a7:=cv.out.below d4 cv.out.lt
            have bq:=cw.out.below d4 cw.out.lt
            have c3:=al.trans (d4.mono kt)
            have cO:=a7.cell v
            rw [List.getElem?_map,tabL_at _ _ gn,Option.map_some] at cO
            have cA:=a7.cell a
            rw [List.getElem?_map,cs.out,Option.map_some] at cA
            generalize (if v<v then (fun u:Nat=>numL G (u:Int)) v else 0)=jh at *
            have fO:=a7.frozen v
            have gp:=a7.set v (.int .i64 nv)
            rw [<- List.map_set,ia.out] at gp
            have jg:=bq.far (p:=⟨d.heap.size,v,none⟩) (by simp) (.int .i64 nv)
            have fi:=c3.setCell (p:=⟨d.heap.size,v,none⟩) (Nat.le_refl _) (.int .i64 nv)
            obtain ⟨ez,f0,kg,kh,h5⟩:=zz5 a7 bq gp jg fi;clear a7 bq gp jg fi
            go_wp2_with fail
            exact ⟨⟨v+1,by omega,by simp,kg.out,by rw [bw.out];exact kh.out,h5.out⟩,by simp [intOf];omega⟩
          ·obtain rfl:v=k:=by omega
           rw [tabL_full] at kO
           change Bk wr d.heap.size 3 ((sewOf G v).map (Value.int .i64)) at kO
           obtain ⟨ax,kq⟩:∃ ax,ax=wr:=⟨_,rfl⟩
           subst kq
           have e1:ax.cell? ⟨w.heap.size,1,none⟩=some (.slice A T.length D):=(bo.cell (p:=⟨w.heap.size,1,none⟩) (by show w.heap.size<_;omega)).trans d1
           have lr:rnk G v<=4096:=Nat.le_trans (rnk_le G v) ln
           obtain ⟨J,dd⟩:∃ J,rnk G v=J:=⟨_,rfl⟩
           rw [dd] at kU lr
           have ds:∀ t∈T,(0<=t.1/\t.1<(v:Int))/\(0<=t.2.1/\t.2.1<(v:Int))/\(0<=t.2.2/\t.2.2<(v:Int)):=fun t ht=>by
            have:=surf_tri a6.out t ht
            rw [ei.out] at this
            exact this
           obtain ⟨b6,b7,b3,ej⟩:=zz4 kO kU dd ds;clear kO kU dd ds
           go_wp2_with fail
           go_loopw [127] (fun i wz=>∃ (j:Nat) (r:Value),j<=T.length/\i=.int .i64 (j:Int)/\Bk wz (d.heap.size+1) 24 [.int .i64 (J:Int),r]/\Bk wz d.heap.size 3 ((sewOf G v).map (Value.int .i64))/\wz.ownsRow ax.heap.size 57 3 r j (triVals (sewT G (T.take j)))/\Below d.heap.size d wz/\ax.heap.size<=wz.heap.size) (fun i _=>T.length - (intOf i).toNat)
           case atStart=>exact ⟨0,_,by omega,rfl,b7.out,b6.out,World.ownsRow_nil _ _ _ _,bo,Nat.le_refl _⟩
           case round =>
            obtain ⟨j,r,hj,rfl,bU,bO,C,bn,ov⟩:=hrel
            obtain ⟨A5,s,rfl,ob⟩:=own_form C
            have u0:wr.cell? ⟨d.heap.size+1,0,none⟩=some (.int .i64 (J:Int)):=bU.cell 0
            have u1:wr.cell? ⟨d.heap.size+1,1,none⟩=some (.slice A5 j s):=bU.cell 1
            have d2:=bU.lt
            by_cases d7:j<T.length
            ·obtain ⟨b,o,rfl,F,t1,t2,t3⟩:=(((gx.out.below keeps_tri (S.mono iq)).below keeps_tri (bn.mono (by omega)))).tri_at d7
             have jc:=ej.out _ (List.getElem_mem d7)
             have bg:triVals (sewT G (T.take (j+1)))=triVals (sewT G (T.take j))++[.int .i64 (numL G T[j].1),.int .i64 (numL G T[j].2.1),.int .i64 (numL G T[j].2.2)]:=by
              rw [List.take_succ_eq_append_getElem d7]
              unfold sewT
              rw [List.map_append,List.map_cons,List.map_nil,triVals_snoc]
             generalize T[j]=x at *
             obtain ⟨x1,x2,x3⟩:=x
             simp only [] at t1 t2 t3 bg jc
             obtain ⟨⟨p1,q1⟩,⟨p2,q2⟩,p3,q3⟩:=jc
             obtain ⟨n1,rfl⟩:∃ m:Nat,x1=(m:Int):=⟨x1.toNat,by omega⟩
             obtain ⟨n2,rfl⟩:∃ m:Nat,x2=(m:Int):=⟨x2.toNat,by omega⟩
             obtain ⟨n3,rfl⟩:∃ m:Nat,x3=(m:Int):=⟨x3.toNat,by omega⟩
             have bz:∀ m:Nat,m<v->wr.cell? ⟨d.heap.size,m,none⟩=some (.int .i64 (numL G (m:Int))):=fun m hm=>by
              rw [bO.cell m,List.getElem?_map]
              unfold sewOf
              rw [List.getElem?_map,List.getElem?_range hm];rfl
             have o1:=bz n1 (by omega)
             have o2:=bz n2 (by omega)
             have o3:=bz n3 (by omega)
             generalize numL G (n1:Int)=y1 at *
             generalize numL G (n2:Int)=y2 at *
             generalize numL G (n3:Int)=y3 at *
             have ng:b<wr.heap.size:=by omega
             have e2:d.heap.size<wr.heap.size:=bO.lt
             clear bz
             obtain ⟨wq,cn⟩:∃ wq,wq=wr.alloc (.cells #[.int .i64 (n1:Int),.int .i64 (n2:Int),.int .i64 (n3:Int)] 57):=⟨_,rfl⟩
             have b8:Below wr.heap.size wr wq:=by rw [cn];exact (Below.refl _ _).alloc (Nat.le_refl _) _
             have j4:Bk wq wr.heap.size 57 [.int .i64 (n1:Int),.int .i64 (n2:Int),.int .i64 (n3:Int)]:=by rw [cn];exact Bk.new wr _ _
             have ou:wr.heap.size<wq.heap.size:=by rw [cn];simp
             have qU:=bU.below b8 d2
             have qO:=bO.below b8 e2
             have e6:=own_below C b8 (Nat.le_refl _)
             have km:=bn.trans (b8.mono (by omega))
             obtain ⟨ky,ef,af,ey,cb,l3,ca,cu⟩:=zz8 bU bO C bg qU qO e6 j4;clear bU bO C bg qU qO e6 j4
             go_wp2_with fail
             rw [<- cn]
             have q0:wq.cell? ⟨d.heap.size+1,0,none⟩=some (.int .i64 (J:Int)):=cb.out.cell 0
             have m2:wq.cell? ⟨d.heap.size+1,1,none⟩=some (.slice A5 j s):=cb.out.cell 1
             have r1:=(b8.cell (p:=⟨d.heap.size,n1,none⟩) e2).trans o1
             have r2:=(b8.cell (p:=⟨d.heap.size,n2,none⟩) e2).trans o2
             have r3:=(b8.cell (p:=⟨d.heap.size,n3,none⟩) e2).trans o3
             have s1:wq.cell? ⟨wr.heap.size,0,none⟩=some (.int .i64 (n1:Int)):=cu.out.cell 0
             have s2:wq.cell? ⟨wr.heap.size,1,none⟩=some (.int .i64 (n2:Int)):=cu.out.cell 1
             have s3:wq.cell? ⟨wr.heap.size,2,none⟩=some (.int .i64 (n3:Int)):=cu.out.cell 2
             clear cn
             refine Canon.wp_region_last 21 [1] (fun b=>b=d.heap.size+1) (.seg [0,1,2,3,4,5,6,7,8,9,10,11,12,13,14,15,16,17] (.alt 18 (.alt 19 (.seg [20] (.alt 21 .fin .no)) .no) .no)) mixed (by kernel_rfl) ?_
             refine Canon.trm_seg ?_
             simp only [zmC,zmN,zgZ,zgS]
             go_wp2_with fail
             refine Canon.trm_to (Canon.trm_one ?_)
             simp only [zgZ,zgS]
             go_wp2_with fail
             refine Canon.trm_end (fun b K=>by subst K;exact Below.heap_alloc wq _ _ cb.out.lt) (Canon.trm_one ?_)
             simp only [zgZ,zgS]
             refine append_block _ rfl _ _ 22 rfl ax.heap.size infoTri Tryz.underlying22 rfl (by decide) _ j _ rfl ((own_below ca.out (Below.refl _ wq).drew (Nat.le_refl _)).alloc _) wq.heap.size [.int .i64 y1,.int .i64 y2,.int .i64 y3] rfl (Bk.new wq.drew 57 _) rfl (by simp [Value.oneCell']) (by omega) (by decide) (by simp only [World.size_alloc,World.size_drew];omega) ?_
             intro v' ea ag bl b4 _
             obtain ⟨g5,aj,rfl⟩:=ownsRow_succ ag
             have dz:∀ g,g<ax.heap.size->some g≠(Value.slice A5 j s).ownBlock:=fun g hg e=>by have:=(ca.out.lt g e.symm).1;omega
             have fy:∀ g,g<ax.heap.size->(Value.slice (some ⟨g5,0,none⟩) (j+1) aj).ownBlock≠some g:=fun g hg e=>by have:=(ag.lt g e).1;omega
             have ai:=(cb.out.drew.alloc (.cells #[.int .i64 y1,.int .i64 y2,.int .i64 y3] 57)).grown b4 (dz _ (by omega))
             have cx:=(l3.out.drew.alloc (.cells #[.int .i64 y1,.int .i64 y2,.int .i64 y3] 57)).grown b4 (dz _ (by omega))
             have lk:Canon.KeepU (fun b=>b=d.heap.size+1) wq.drew ea:=fun b K=>by subst K;exact ai.trans cb.out.symm
             have e5:=ai.cell 1
             have f5:=ai.frozen 1
             have lz:=bl.size
             have f3:=ai.set 1 (.slice (some ⟨g5,0,none⟩) (j+1) aj)
             have f2:=cx.far (p:=⟨d.heap.size+1,1,none⟩) (by simp only;omega) (.slice (some ⟨g5,0,none⟩) (j+1) aj)
             have e4:=ag.kept (row:=some (d.heap.size+1)) (w':=ea.setCell ⟨d.heap.size+1,1,none⟩ (.slice (some ⟨g5,0,none⟩) (j+1) aj)) ⟨rfl,rfl,rfl,(KeepsWalks.setCell ea _ _).size,fun b _ F=>Below.heap_setCell _ _ _ b (fun e=>F (by rw [e]))⟩ (.inr (fy _ (by omega)))
             have Z:=((km.drew.alloc (by simp only [World.size_drew];omega) (.cells #[.int .i64 y1,.int .i64 y2,.int .i64 y3] 57)).trans (bl.mono (by omega))).setCell (p:=⟨d.heap.size+1,1,none⟩) (by show d.heap.size<=d.heap.size+1;omega) (.slice (some ⟨g5,0,none⟩) (j+1) aj)
             simp only [World.size_alloc,World.size_drew] at lz
             obtain ⟨l1,m8,m7,gv,gu,es,em,mr,ms,l0⟩:=zz10 ag ai cx f3 f2 e4 Z dz fy b4;clear ag ai cx f3 f2 e4 Z dz fy b4
             refine Canon.trm_end lk (Canon.trm_seg ?_)
             simp only [zmC,zmN,zgZ,zgS]
             go_wp2_with fail
             refine Canon.trm_to (Canon.trm_one ?_)
             simp only [zgZ,zgS]
             go_wp2_with fail
             refine Canon.trm_last (Canon.trm_fin (by rfl) (List.forall_mem_cons.2 ⟨.inl ⟨_,rfl,rfl,by rw [World.cell?_drew,m2];rfl⟩,fun _ h=>by cases h⟩) ?_)
             go_wp2_with fail
             refine ⟨⟨j+1,_,by omega,by simp,gv.out,gu.out,by rw [ey.out];exact es.out,em.out,?_⟩,by simp [intOf];omega⟩
             have h8:=(KeepsWalks.setCell ea ⟨d.heap.size+1,1,none⟩ (.slice (some ⟨g5,0,none⟩) (j+1) aj)).size
             omega
            ·obtain rfl:j=T.length:=by omega
             rw [List.take_length] at C
             have b5:(sewT G T).length=T.length:=by unfold sewT;rw [List.length_map]
             have gk:=sl_own_tris (T:=sewT G T) (by rw [b5];exact C)
             obtain ⟨gr,kr⟩:∃ gr,gr=wr:=⟨_,rfl⟩
             subst kr
             have fj:=certis_calls (.slice A5 T.length s) (J:Int) (sewT G T) gr (Nat.le_refl _) gk (I64.nat (by omega))
             have aq:=(dn.out.below S (by omega)).below bn (by omega)
             have dv:=(Z.trans (S.mono Z.size)).trans (bn.mono (by omega))
             obtain ⟨ky,ef,af,h6,mt⟩:=zz5 bU bO C fj gk;clear bU bO C fj gk
             go_wp2_with fail
             refine h6.out.mono ?_
             rintro e gs ⟨⟨b,rfl,F⟩,ak⟩
             have I:=aq.below ak (by have:=aq.lt;exact this)
             have ch:=below_call dv ak dv.size
             have f1:=I.frozen
             have g0:gs.cell? ⟨w.heap.size+1,0,none⟩=some (.int .i64 0):=I.cell 0
             have g1:gs.cell? ⟨w.heap.size+1,1,none⟩=some (.slice none 0 0):=I.cell 1
             have dr:N.toNat=v:=by have:=ei.out;omega
             cases b with
             | false =>
              have hn:¬ Surf (J:Int) (sewT G T):=fun h=>by have:=F.2 h;cases this
              have Q:=(ch.setCell (p:=⟨w.heap.size+1,0,none⟩) (by simp) (.int .i64 0)).setCell (p:=⟨w.heap.size+1,1,none⟩) (by simp) (.slice none 0 0)
              have W:=(I.set 0 (.int .i64 0)).set 1 (.slice none 0 0)
              obtain ⟨el,ep,a9,aa,hw,hx,a8⟩:=zz7 F hn Q W aq I dr;clear F hn Q W aq I dr
              go_wp2_with fail
              refine ret_ctt rfl rfl aa.out Tryz.underlying24 rfl (by kernel_rfl) rfl ⟨⟨_,_,_,rfl,.inr (.inr (.inl ⟨a6.out,?_,?_,rfl,rfl,rfl⟩)),fun K=>(by cases K)⟩,a9.out⟩
              ·rw [dg.out];exact eu.out
              ·unfold labP
               rw [ar.out,a8.out,b3.out];exact ep.out
             | true =>
              have jd:=F.1 rfl
              have z0:=(ak.cell (p:=⟨d.heap.size+1,0,none⟩) d2).trans u0
              have z1:=(ak.cell (p:=⟨d.heap.size+1,1,none⟩) d2).trans u1
              have Y:∀ (wz:World) (i:Nat) (u:Value),wz.grownBy (wz.setCell ⟨w.heap.size+1,i,none⟩ u) (some (w.heap.size+1)):=fun wz i u=>⟨rfl,rfl,rfl,(KeepsWalks.setCell wz _ u).size,fun b _ F=>Below.heap_setCell _ _ _ b (fun e=>F (by rw [e]))⟩
              have fz:(Value.slice A5 T.length s).ownBlock=none\/(Value.slice A5 T.length s).ownBlock≠some (w.heap.size+1):=.inr fun e=>by have:=(af.out.lt _ e).1;omega
              have bc:=((own_below af.out ak (Nat.le_refl _)).kept (Y gs 0 (.int .i64 (J:Int))) fz).kept (Y _ 1 (.slice A5 T.length s)) fz
              have ge:d.heap.size≠w.heap.size+1:=by omega
              have df:=((ef.out.below ak ef.out.lt).far (p:=⟨w.heap.size+1,0,none⟩) ge (.int .i64 (J:Int))).far (p:=⟨w.heap.size+1,1,none⟩) ge (.slice A5 T.length s)
              have Q:=(ch.setCell (p:=⟨w.heap.size+1,0,none⟩) (by simp) (.int .i64 (J:Int))).setCell (p:=⟨w.heap.size+1,1,none⟩) (by simp) (.slice A5 T.length s)
              have W:=(I.set 0 (.int .i64 (J:Int))).set 1 (.slice A5 T.length s)
              have e9:=sl_own_tris (T:=sewT G T) (by rw [b5];exact bc)
              have gi:=sl_zv df
              have g6:(sewOf G v).length=v:=by unfold sewOf;simp
              rw [g6] at gi
              clear Y fz
              obtain ⟨el,kd,a9,aa,hw,hx,a8,eb,dq,ex,kc,k4⟩:=zz12 F jd Q W aq I dr bc df e9 gi g6;have en:=zz b5;clear F jd Q W aq I dr bc df e9 gi g6 b5
              go_wp2_with fail
              refine ret_ctt rfl rfl aa.out Tryz.underlying24 rfl (by kernel_rfl) rfl ⟨⟨_,_,_,rfl,.inr (.inr (.inr ⟨a6.out,?_,?_,rfl,.slice A5 T.length s,?_,?_,?_⟩)),fun _ wz hwz=>⟨.slice A5 T.length s,?_,?_,?_⟩⟩,a9.out⟩
              ·rw [dg.out];exact eu.out
              ·unfold labP
               rw [ar.out,a8.out,b3.out];exact kd.out
              ·unfold labP
               rw [ar.out,a8.out,b3.out];rfl
              ·unfold labP
               rw [ar.out];exact ex.out
              ·unfold labP
               rw [ar.out,a8.out];exact kc.out
              ·unfold labP
               rw [ar.out,a8.out,b3.out];rfl
              ·unfold labP
               rw [ar.out]
               exact sl_own_tris (T:=sewT G T) (by rw [en.out];exact own_from eb.out fun b h1 h2=>hwz b (by omega) h2)
              ·unfold labP
               rw [ar.out,a8.out]
               have:=sl_zv (w:=wz) (g:=d.heap.size) (t:=3) (l:=sewOf G v) ((hwz d.heap.size (by omega) dq.out.lt).trans dq.out)
               rw [k4.out] at this
               exact this
    ·have oc:(c != 0)=true:=bne_iff_ne.2 dw
     have f1:=V.frozen
     have e0:f.cell? ⟨w.heap.size+1,0,none⟩=some (.int .i64 0):=V.cell 0
     have e1:f.cell? ⟨w.heap.size+1,1,none⟩=some (.slice none 0 0):=V.cell 1
     have Q:=(Z.setCell (p:=⟨w.heap.size+1,0,none⟩) (by simp) (.int .i64 0)).setCell (p:=⟨w.heap.size+1,1,none⟩) (by simp) (.slice none 0 0)
     have W:=(V.set 0 (.int .i64 0)).set 1 (.slice none 0 0)
     obtain ⟨hh,dn,a9,aa⟩:=zz4 ao V Q W;clear ao V Q W
     go_wp2_with fail
     refine ret_ctt rfl rfl aa.out Tryz.underlying24 rfl (by kernel_rfl) rfl ⟨⟨_,_,_,rfl,.inr (.inl ⟨a6.out,?_,dw,rfl,rfl⟩),fun K=>absurd K dw⟩,a9.out⟩
     rw [dg.out];exact io.out.symm
end Go.Proofs.YtpbdcppaiafbgaaGreat
