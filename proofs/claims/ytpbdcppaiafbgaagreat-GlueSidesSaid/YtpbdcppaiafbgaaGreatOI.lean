/- Walks: does a loop part a surface (glue's Side). -/
import Derived.Test.YtpbdcppaiafbgaaGreatOC
import Derived.Test.YtpbdcppaiafbgaaGreatDK
import Derived.Test.YtpbdcppaiafbgaaGreatRZ
set_option maxRecDepth 100000
set_option maxHeartbeats 8000000
namespace Go.Mesh
theorem loop_cut {N:Int} {T:List T3} {l:List Int} (hs:Surf N T) (h:lpN N T l=0) (hf:(newO N T ((lpE l).map nm)).length<=4096):∃ Es,CutOk N T (lpE l) Es:=⟨_,hs,loop_clean h,loop_idle h,hf,hs.edges_are⟩
end Go.Mesh
namespace Go.Proofs.YtpbdcppaiafbgaaGreat
open Go Go.RowKit Go.Words Go.Mesh
def SideC (N:Int) (T:List T3) (l:List Int) (b:Bool) (c:Int):Prop :=
 (b=false/\c≠0/\((¬ Surf N T/\c=11)\/(Surf N T/\((lpN N T l≠0/\c=lpN N T l)\/(lpN N T l=0/\4096<(newO N T ((lpE l).map nm)).length/\c=7))))) \/
  (c=0/\Surf N T/\lpN N T l=0/\(newO N T ((lpE l).map nm)).length<=4096/\∃ (ot ox:List Int) (ct cx:Nat),Pt T ot ct T.length/\Pt (newX N T ((lpE l).map nm)) ox cx T.length/\b=decide (ct<cx))
theorem LoopCut.shape2 {w':World} {N:Int} {T:List T3} {l:List Int} {x o:Value} {c:Int} (h:LoopCut w' N T l x o c):∃ n9 A9 m9 q9,x=.agg #[.int .i64 n9,.slice A9 m9 q9]:=by
 rcases h with ⟨_,_,a,b⟩ | ⟨_,_,_,a,b⟩ | ⟨_,_,_,_,a,b⟩ | ⟨_,_,_,_,g,a,b,f⟩
 ·exact ⟨_,_,_,_,a⟩
 ·exact ⟨_,_,_,_,a⟩
 ·exact ⟨_,_,_,_,a⟩
 ·obtain ⟨d,e,rfl,_⟩:=b.form
  exact ⟨_,_,_,_,a⟩
theorem LoopCut.no {w':World} {N:Int} {T:List T3} {l:List Int} {x o:Value} {c:Int} (h:LoopCut w' N T l x o c) (hc:c≠0):SideC N T l false c:=by
 refine .inl ⟨rfl,hc,?_⟩
 rcases h with ⟨a,b,_⟩ | ⟨d,a,b,_⟩ | ⟨d,a,b,e,_⟩ | ⟨_,a,b,e,_⟩
 ·exact .inl ⟨a,b⟩
 ·exact .inr ⟨d,.inl ⟨a,b⟩⟩
 ·exact .inr ⟨d,.inr ⟨a,b,e⟩⟩
 ·exact absurd e hc
theorem side45_calls {w:World} {B:Nat} {sv lv:Value} {N:Int} {T:List T3} {l:List Int} (hB0:B<=w.heap.size) (hT:Sl 3 RTri w B sv T) (hN:I64 N) (hl:Sl 1 RInt w B lv l) (hok:∀ x∈l,I64 x) (hll:l.length<=1000) :
  Calls Tryz.prog 49 #[.agg #[.int .i64 N,sv],lv] w fun e w'=>(∃ b c,e=.returned (.tuple #[.bool b,.int .i64 c])/\SideC N T l b c)/\Below w.heap.size w w':=by
 obtain ⟨A,n,rfl,cq⟩:=hT.form
 have ae:=(Below.refl w.heap.size w).alloc (Nat.le_refl _) (.cells #[.int .i64 N,.slice A T.length n] 24)
 have W:=Bk.new w 24 [.int .i64 N,.slice A T.length n]
 have d5:w.heap.size+1<=(w.alloc (.cells #[.int .i64 N,.slice A T.length n] 24)).heap.size:=by simp
 have ab:=hT.below keeps_tri (ae.mono hB0)
 have al:=hl.below keeps_int (ae.mono hB0)
 generalize ca:w.alloc (.cells #[.int .i64 N,.slice A T.length n] 24)=w0 at *
 have c0:w0.cell? ⟨w.heap.size,0,none⟩=some (.int .i64 N):=W.cell 0
 have c1:w0.cell? ⟨w.heap.size,1,none⟩=some (.slice A T.length n):=W.cell 1
 have bb:=along45_calls (w:=w0) (B:=B) (N:=N) (by omega) ab hN al hok hll
 obtain ⟨d1,d2,bm,cm,bs,bp,co⟩:=zz7 hT hl ab al W bb hok;clear hT hl ab al W bb hok
 go_enter Tryz.func49,Tryz.ntmps49
 go_wp2_with fail
 clear ca
 refine bp.out.mono ?_
 rintro e k ⟨⟨x,o,c,rfl,hcut,d⟩,R⟩
 have cc:=R.size
 have U:=ae.trans (R.mono (by omega))
 have f:=bs.out.below R (by omega)
 obtain ⟨n9,A9,m9,q9,rfl⟩:=hcut.shape2
 obtain ⟨m,a1⟩:∃ m,k.alloc (.cells #[.int .i64 n9,.slice A9 m9 q9] 24)=m:=⟨_,rfl⟩
 have S:Below k.heap.size k m:=by rw [<- a1];exact (Below.refl k.heap.size k).alloc (Nat.le_refl _) _
 have d6:k.heap.size+1<=m.heap.size:=by rw [<- a1];simp
 have s:=U.trans (S.mono (by omega))
 have a:=f.below S (by omega)
 have h:Bk m k.heap.size 24 [.int .i64 n9,.slice A9 m9 q9]:=by rw [<- a1];exact Bk.new k _ _
 have tf:=h.frozen
 have t0:m.cell? ⟨k.heap.size,0,none⟩=some (.int .i64 n9):=h.cell 0
 have t1:m.cell? ⟨k.heap.size,1,none⟩=some (.slice A9 m9 q9):=h.cell 1
 by_cases ak:c=0
 case neg =>
  have d4:(c != 0)=true:=bne_iff_ne.2 ak
  have Y:=hcut.no ak
  by_cases a2:n9=0/\Value.slice A9 m9 q9=.slice none 0 0
  ·obtain ⟨rfl,c9⟩:=a2
   injection c9 with r G h3
   subst r;subst G;subst h3
   clear a1
   obtain ⟨K,L,P,Q,E,F⟩:=zz6 hcut d f a h Y;clear hcut d f a h Y
   go_wp2_with fail
   go_ret2
   exact ⟨⟨false,c,rfl,F.out⟩,by first | exact s | exact U.alloc (by omega) _⟩
  ·clear a2
   obtain ⟨K,L,P,Q,E,F⟩:=zz6 hcut d f a h Y;clear hcut d f a h Y
   go_wp2_with fail
   go_ret2
   exact ⟨⟨false,c,rfl,F.out⟩,s⟩
 subst ak
 obtain ⟨xv,hx,hX,_⟩:=d rfl m fun b _ G=>S.block b G
 have b2:Surf N T/\lpN N T l=0/\(newO N T ((lpE l).map nm)).length<=4096:=by
  rcases hcut with ⟨_,r,_⟩ | ⟨_,r,G,_⟩ | ⟨_,_,_,r,_⟩ | ⟨r,G,h3,_⟩
  ·exact absurd r (by decide)
  ·exact absurd G.symm r
  ·exact absurd r (by decide)
  ·exact ⟨r,G,h3⟩
 obtain ⟨hs,H,t⟩:=b2
 injection hx with hx
 have hx:=congrArg Array.toList hx
 simp only [List.cons.injEq] at hx
 obtain ⟨aq,cb,_⟩:=hx
 injection aq with _ aq
 subst cb
 obtain ⟨Es,p⟩:=loop_cut hs H t
 have bj:=p.numb.surf hs p.parts t
 have ba:(newX N T ((lpE l).map nm)).length=T.length:=p.numb.len
 obtain ⟨bg,_⟩:=hX.len
 have c6:=R.trans (S.mono cc)
 have ac:=bm.out.below keeps_tri (c6.mono (show B<=w0.heap.size by omega))
 have bi:=new_calls (.slice A T.length n) N T m (B:=B) (by omega) ac hN
 have e0:m.cell? ⟨w.heap.size,0,none⟩=some (.int .i64 N):=a.cell 0
 have e1:m.cell? ⟨w.heap.size,1,none⟩=some (.slice A T.length n):=a.cell 1
 have d3:((0:Int) != 0)=false:=rfl
 generalize b8:newO N T ((lpE l).map nm)=O at *
 generalize b9:newX N T ((lpE l).map nm)=X at *
 subst aq
 obtain ⟨K,L,P,Q,E,a8,av,M,c5,cg,a9,bo⟩:=zz12 hcut d f a h hs H t hX p bj ba;obtain ⟨cn,ck,bu,bl,bn⟩:=zz5 bg ac bi b8 b9;clear hcut d f a h hs H t hX p bj ba bg ac bi b8 b9
 go_wp2_with fail
 refine bu.out.mono ?_
 rintro e q ⟨⟨pv,x1,y1,z1,rfl,y⟩,af⟩
 have cd:=af.size
 have ax:=s.trans (af.mono (by omega))
 have v:Tab q q.heap.size pv N T:=by
  rcases y with ⟨_,i⟩ | ⟨i,_⟩
  ·exact i
  ·exact absurd a8.out i
 clear y
 obtain ⟨pt,c8⟩:∃ pt,pv=.pointer (some pt):=by
  obtain ⟨g,_,_,_,_,_,rfl,_⟩:=v
  exact ⟨_,rfl⟩
 subst c8
 obtain ⟨C,ao⟩:∃ C,q.alloc (.cells #[.int .i64 x1,.int .i64 y1,.int .i64 z1] 48)=C:=⟨_,rfl⟩
 have ag:Below q.heap.size q C:=by rw [<- ao];exact (Below.refl q.heap.size q).alloc (Nat.le_refl _) _
 have d7:q.heap.size+1<=C.heap.size:=by rw [<- ao];simp
 have ay:=ax.trans (ag.mono (by omega))
 have b7:=af.trans (ag.mono cd)
 have u:=E.out.below b7 (by omega)
 have s0:C.cell? ⟨k.heap.size,0,none⟩=some (.int .i64 (O.length:Nat)):=u.cell 0
 have s1:C.cell? ⟨k.heap.size,1,none⟩=some (.slice A9 m9 q9):=u.cell 1
 have ad:=c5.out.below keeps_tri b7
 have a0:=v.below ag (Nat.le_refl _)
 have bh:=new_calls (.slice A9 m9 q9) (O.length:Nat) X C (B:=m.heap.size) (by omega) ad (I64.nat (by have:=M.out;omega))
 obtain ⟨cj,aa,cf,cl,bt⟩:=zz5 v a0 u ad bh;clear v a0 u ad bh
 go_wp2_with fail
 clear ao
 refine bt.out.mono ?_
 rintro e D ⟨⟨bk,x2,y2,z2,rfl,y⟩,ah⟩
 have ce:=ah.size
 have az:=ay.trans (ah.mono (by omega))
 have Z:Tab D D.heap.size bk (O.length:Nat) X:=by
  rcases y with ⟨_,i⟩ | ⟨i,_⟩
  ·exact i
  ·exact absurd a9.out i
 clear y
 obtain ⟨da,c4⟩:∃ pt,bk=.pointer (some pt):=by
  obtain ⟨g,_,_,_,_,_,rfl,_⟩:=Z
  exact ⟨_,rfl⟩
 subst c4
 obtain ⟨w6,ap⟩:∃ w6,D.alloc (.cells #[.int .i64 x2,.int .i64 y2,.int .i64 z2] 48)=w6:=⟨_,rfl⟩
 have ai:Below D.heap.size D w6:=by rw [<- ap];exact (Below.refl D.heap.size D).alloc (Nat.le_refl _) _
 have d8:D.heap.size+1<=w6.heap.size:=by rw [<- ap];simp
 have b0:=az.trans (ai.mono (by omega))
 have J:=Z.below ai (Nat.le_refl _)
 have an:=aa.out.below ((ah.trans (ai.mono ce)).mono (show q.heap.size<=C.heap.size by omega)) (Nat.le_refl _)
 have bd:=count_calls J a9.out
 obtain ⟨cp,ci,aw,br⟩:=zz4 Z J an bd;clear Z J an bd
 go_wp2_with fail
 clear ap
 refine br.out.mono ?_
 rintro e w7 ⟨⟨ox,cx,rfl,am⟩,aj⟩
 have d9:=aj.size
 have b1:=b0.trans (aj.mono (by omega))
 have I:=aw.out.below (aj.mono (show q.heap.size<=w6.heap.size by omega)) (Nat.le_refl _)
 have bc:=count_calls I a8.out
 rw [bo.out] at am
 obtain ⟨ch,bq,bw⟩:=zz3 I bc am;clear I bc am
 go_wp2_with fail
 refine bq.out.mono ?_
 rintro e w8 ⟨⟨ot,ct,rfl,z⟩,c7⟩
 have V:=b1.trans (c7.mono (by omega))
 have j:∀ b,b=decide (ct<cx)->SideC N T l b 0:=fun b hb=>.inr ⟨rfl,a8.out,av.out,by rw [bl.out];exact M.out,ot,ox,ct,cx,z,by rw [bn.out];exact bw.out,hb⟩
 by_cases be:ct<cx
 ·have i:=j true (decide_eq_true be).symm
  obtain ⟨bv,au,a7⟩:=zz3 z j i;clear z j i
  go_wp2_with fail
  all_goals first | (exfalso;omega) | skip
  go_ret2
  exact ⟨⟨true,0,by simp <;> omega,a7.out⟩,V⟩
 ·have i:=j false (decide_eq_false be).symm
  obtain ⟨bv,au,a7⟩:=zz3 z j i;clear z j i
  go_wp2_with fail
  all_goals first | (exfalso;omega) | skip
  go_ret2
  exact ⟨⟨false,0,by simp <;> omega,a7.out⟩,V⟩
end Go.Proofs.YtpbdcppaiafbgaaGreat
