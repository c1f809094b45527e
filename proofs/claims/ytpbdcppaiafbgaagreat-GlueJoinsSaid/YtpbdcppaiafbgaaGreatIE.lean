/- A cutter's block and rows while it counts. Walks. -/
import Derived.Test.YtpbdcppaiafbgaaGreatID
import Derived.Test.YtpbdcppaiafbgaaGreatSG
set_option maxRecDepth 100000
set_option maxHeartbeats 8000000
namespace Go.Proofs.YtpbdcppaiafbgaaGreat
open Go Go.RowKit Go.Words Go.Mesh
theorem Zom{W:World}{base n cap size:Nat}{e:TypeId}{a:Nat}{xs:List Value}(h:W.ownsRow base e size (.slice (some ⟨a,0,none⟩) n cap) n xs)(i:Nat)(u:Value):(W.setCell ⟨a,i,none⟩ u).ownsRow base e size (.slice (some ⟨a,0,none⟩) n cap) n (xs.set i u):=by
 refine⟨by rw[List.length_set];exact h.1,?_⟩;rcases h.2 with⟨b,_⟩|⟨q,l,d,b,m,o,j,f,k,p⟩
 ·cases b
 ·injection b with b _ c;injection b with b;injection b with b;subst b;subst c;have g:Bk W a e d.toList:=by unfold Bk;rw[o]
  have c:=g.set i u;unfold Bk at c;exact .inr ⟨a,cap,(d.toList.set i u).toArray,rfl,m,c,j,f,by simpa using k,by rw[<- p,List.take_set]⟩
theorem Zar(W:World)(b i:Nat)(v:Value):W.grownBy (W.setCell ⟨b,i,none⟩ v) (some b) :=
 ⟨rfl,rfl,rfl,(KeepsOthers.setCell W ⟨b,i,none⟩ v).size,fun k _ h=>Below.heap_setCell W ⟨b,i,none⟩ v k fun e=>h (by rw[e])⟩
theorem Zdq{w:World}{g base size n:Nat}{t e:TypeId}{v:Value}{xs cs:List Value}(ho:w.ownsRow base e size v n xs)(hb:Bk w g t cs)(hne:e≠t):v.ownBlock=none\/v.ownBlock≠some g:=by
 rcases ho.2 with⟨rfl,_⟩|⟨d,b,c,rfl,_,a,_⟩
 ·exact .inl rfl
 ·refine .inr fun he=>?_
  have:d=g:=by simpa[Value.ownBlock]using he
  subst this;unfold Bk at hb;rw[hb]at a;injection a with h2;injection h2 with _ h3;exact hne h3.symm
theorem Zd7{X:List T3}{j:Nat}(hj:j<3*X.length):(Zal X)[j]? = some (.int .i64 (Mesh.vt X j)):=by
 have a:j<(Zal X).length:=by rw[Za2];omega
 obtain⟨_,h⟩:=Zo3 X j _ (zG a);rw[zG a,h]
theorem flat3_set(f:Nat->Int){n c:Nat}(hc:c<3*n)(u:Int):(Zal (relab f n)).set c (.int .i64 u)=Zal (relab (fun d=>if d=c then u else f d) n):=by
 refine List.ext_getElem? fun j=>?_
 by_cases a:j<3*n
 ·rw[Zd7 (by rw[Zbn];exact a),Zld _ a,List.getElem?_set];by_cases h:c=j
  ·subst h;rw[if_pos rfl,if_pos (by rw[Za2,Zbn];omega),if_pos rfl]
  ·rw[if_neg h,if_neg (fun h9=>h h9.symm),Zd7 (by rw[Zbn];exact a),Zld _ a]
 ·rw[List.getElem?_eq_none (by rw[List.length_set,Za2,Zbn];omega),List.getElem?_eq_none (by rw[Za2,Zbn];omega)]
theorem mp_own{w:World}{b base size n:Nat}{t:TypeId}{v:Value}{xs:List Value}{κ α:Type}{enc:κ->Value}{ok:κ->Prop}{ev:α->Value}{l:List (κ×α)}(hm:Mp enc ok ev w b l)(ho:w.ownsRow base t size v n xs):some b≠v.ownBlock:=fun e=>by
 obtain⟨f,d,c,_⟩:=hm.block;rcases own_non ho (row:=some b) (fun r a=>by injection a with a;subst a;exact⟨_,c,rfl⟩)with h|h
 ·rw[h]at e;cases e
 ·exact h e.symm
section
variable {w w' w1 : World} {B g bc be : Nat} {tv sv wv sv' wv' : Value} {N n n' : Int} {T X X' : List T3} {L : List (Int×Int)} {O O' : List Int}
theorem Ctr.move(h:Ctr w B g bc be tv N T L n sv wv X O)(hb:Bk w' g 106 [tv,.map (some bc),.map (some be),.int .i64 n',sv',wv'])(ht:Below B w w')(hc:w'.heap[bc]? = w.heap[bc]?)(he:w'.heap[be]? = w.heap[be]?)
  (hs:w'.ownsRow B 57 3 sv' X'.length (Zal X')) (hw:w'.ownsRow B 3 1 wv' O'.length (ivals O')):Ctr w' B g bc be tv N T L n' sv' wv' X' O' where
 blk:=hb
 tab:=h.tab.below ht zl
 cuts:=by obtain⟨S,a,b⟩:=h.cuts;exact⟨S,a.keep hc,b⟩
 ends:=by obtain⟨E,a,b⟩:=h.ends;exact⟨E,a.keep he,b⟩
 sow:=hs
 wow:=hw
 le:=h.le
 ne:=h.ne
theorem Ctr.maps(h:Ctr w B g bc be tv N T L n sv wv X O):g≠bc/\g≠be/\bc<w.heap.size/\be<w.heap.size/\some bc≠sv.ownBlock/\some be≠sv.ownBlock/\some bc≠wv.ownBlock/\some be≠wv.ownBlock:=by
 obtain⟨S,b,_⟩:=h.cuts;obtain⟨E,a,_⟩:=h.ends;exact⟨Zsp h.blk b,Zsp h.blk a,b.lt,a.lt,mp_own b h.sow,mp_own a h.sow,mp_own b h.wow,mp_own a h.wow⟩
theorem Ctr.grown(h:Ctr w B g bc be tv N T L n sv wv X O)(hown:w1.ownsRow B 3 1 wv' O'.length (ivals O'))(hg:w.grownBy w1 wv.ownBlock) :
  Bk w1 g 106 [tv,.map (some bc),.map (some be),.int .i64 n,sv,wv]/\Ctr (w1.setCell ⟨g,5,none⟩ wv') B g bc be tv N T L n sv wv' X O'/\Below B w (w1.setCell ⟨g,5,none⟩ wv') /\
   ∀k,k<w.heap.size->k≠g->some k≠wv.ownBlock->(w1.setCell ⟨g,5,none⟩ wv').heap[k]? = w.heap[k]?:=by
 obtain⟨i,j,l,m,r,s,o,q⟩:=h.maps;have b:=h.blk.kept_own h.wow (by decide) hg;have f:Below B w w1:=(zr B w).grown hg h.tab.le fun k e=>(h.wow.lt k e).1
 have c:=f.setCell (p:=⟨g,5,none⟩) h.le.1 wv';have d:=h.sow.kept hg (Zbi h.wow h.sow (by decide));have a:∀k,k<w.heap.size->k≠g->some k≠wv.ownBlock->(w1.setCell ⟨g,5,none⟩ wv').heap[k]? = w.heap[k]?:=fun k h1 h2 h3=>(Below.heap_setCell w1 ⟨g,5,none⟩ wv' k h2).trans (hg.block k h1 h3)
 refine⟨b,h.move (b.set 5 wv') c (a bc l (Ne.symm i) o) (a be m (Ne.symm j) q) ?_ ?_,c,a⟩
 ·exact d.kept (Zar w1 g 5 wv') (Zdq d b (by decide))
 ·exact hown.kept (Zar w1 g 5 wv') (Zdq hown b (by decide))
theorem Ctr.count(h:Ctr w B g bc be tv N T L n sv wv X O)(n':Int):Ctr (w.setCell ⟨g,3,none⟩ (.int .i64 n')) B g bc be tv N T L n' sv wv X O/\Below B w (w.setCell ⟨g,3,none⟩ (.int .i64 n')) /\
   ∀k,k≠g->(w.setCell ⟨g,3,none⟩ (.int .i64 n')).heap[k]? = w.heap[k]?:=by
 obtain⟨c,d,e,f,i,j,l,m⟩:=h.maps;have b:=(zr B w).setCell (p:=⟨g,3,none⟩) h.le.1 (.int .i64 n');have a:∀k,k≠g->(w.setCell ⟨g,3,none⟩ (.int .i64 n')).heap[k]? = w.heap[k]?:=fun k h2=>Below.heap_setCell w ⟨g,3,none⟩ _ k h2
 exact⟨h.move (h.blk.set 3 _) b (a bc (Ne.symm c)) (a be (Ne.symm d)) (h.sow.kept (Zar w g 3 _) (Zdq h.sow h.blk (by decide))) (h.wow.kept (Zar w g 3 _) (Zdq h.wow h.blk (by decide))),b,a⟩
theorem Ctr.put{a cap:Nat}{f:Nat->Int}{m:Nat}(h:Ctr w B g bc be tv N T L n (.slice (some ⟨a,0,none⟩) m cap) wv (relab f m) O){c:Nat}(hc:c<3*m)(u:Int) :
  Ctr (w.setCell ⟨a,c,none⟩ (.int .i64 u)) B g bc be tv N T L n (.slice (some ⟨a,0,none⟩) m cap) wv (relab (fun d=>if d=c then u else f d) m) O/\Below B w (w.setCell ⟨a,c,none⟩ (.int .i64 u)) /\
   ∀k,k≠a->(w.setCell ⟨a,c,none⟩ (.int .i64 u)).heap[k]? = w.heap[k]?:=by
 obtain⟨t,v,x,y,r,s,z,A⟩:=h.maps;have j:=h.sow;rw[Zbn]at j;have o:B<=a:=(j.lt a rfl).1;have i:=(zr B w).setCell (p:=⟨a,c,none⟩) o (.int .i64 u);have b:∀k,k≠a->(w.setCell ⟨a,c,none⟩ (.int .i64 u)).heap[k]? = w.heap[k]?:=fun k h2=>Below.heap_setCell w ⟨a,c,none⟩ _ k h2
 have q:=Zdq j h.blk (by decide);refine⟨h.move ((b g ?_).trans h.blk) i (b bc ?_) (b be ?_) ?_ (h.wow.kept (Zar w a c _) (Zbi j h.wow (by decide))),i,b⟩
 ·intro e;subst e;rcases q with l|l
  ·cases l
  ·exact l rfl
 ·intro e;subst e;exact r rfl
 ·intro e;subst e;exact s rfl
 ·rw[Zbn,<- flat3_set f hc];exact Zom j c _
end
open Go Go.RowKit Go.Words Go.Mesh
theorem hdV_few(T:List T3)(C:List (Int×Int))(v:Int):(hdV T C v).length<=3*T.length:=by
 unfold hdV;exact Nat.le_trans (List.length_filter_le _ _) (by rw[List.length_range];exact zl)
theorem take_fun{row:List Nat}{i:Nat}(n9:Int)(f:Nat->Int)(h:i<row.length):(fun c=>if c=row[i]then n9 else if c∈row.take i then n9 else f c)=fun c=>if c∈row.take (i+1)then n9 else f c:=funext fun c=>by
 have d:c∈row.take (i+1)↔c∈row.take i\/c=row[i]:=by rw[zT h,zP,zU]
 by_cases a:c=row[i]
 ·rw[if_pos a,if_pos (d.2 (.inr a))]
 ·rw[if_neg a];by_cases b:c∈row.take i
  ·rw[if_pos b,if_pos (d.2 (.inl b))]
  ·rw[if_neg b,if_neg (fun h9=>(d.1 h9).elim b a)]
theorem Zqu(O:List Int)(x:Int):ivals (O++[x])=ivals O++[.int .i64 x]:=by unfold ivals;rw[List.map_append];rfl
theorem part_calls{w:World}{B g bc be:Nat}{tv sv wv:Value}{N:Int}{T:List T3}{L:List (Int×Int)}(h:Ctr w B g bc be tv N T L N sv wv T [])(hs:Surf N T)(hgd:Mesh.Good T L)(hL:L.length<=1000) :
  Calls Tryz.prog 66 #[.pointer (some ⟨g,0,none⟩)] w fun e w'=>e=.returned (.tuple #[])/\(∃wv',Ctr w' B g bc be tv N T L ((newO N T (L.map nm)).length:Nat) sv wv' (newX N T (L.map nm)) (newO N T (L.map nm)))/\Below B w w':=by
 have ff:=hs.n0;have fg:=hs.nmax;have fi:=hs.tmax;have c3:w.cell? ⟨g,3,none⟩=some (.int .i64 N):=h.blk.cell 3;have fe:=h.tab.le;have cd:=zr B w;obtain⟨M,hM⟩:∃M:Nat,N=(M:Int):=⟨N.toNat,by omega⟩;obtain⟨Hh,cw⟩:=zz2 h cd;clear h cd;go_enter Tryz.func66,Tryz.ntmps66;go_wp2_with fail;go_loopw[15] (fun iv wr=>∃k:Nat,∃wv',(k:Int)<=N/\iv=.int .i64 (k:Int)/\Ctr wr B g bc be tv N T L N sv wv' T ((List.range k).map fun v:Nat=>(v:Int))/\Below B w wr) (fun iv _=>N.toNat-(intOf iv).toNat)
 case atStart=>exact⟨0,wv,by omega,rfl,Hh.out,cw.out⟩
 case round =>
  obtain⟨k,bz,hk,rfl,p,av⟩:=hrel;by_cases fq:(k:Int)<N
  ·have hO:((List.range k).map fun v:Nat=>(v:Int)).length=k:=by simp
   have ci:((List.range (k+1)).map fun v:Nat=>(v:Int))=((List.range k).map fun v:Nat=>(v:Int))++[(k:Int)]:=by rw[List.range_succ,List.map_append];rfl
   have t:=p.wow;rw[hO]at t;generalize ((List.range k).map fun v:Nat=>(v:Int))=O1 at *;have e5:wr.cell? ⟨g,5,none⟩=some bz:=p.blk.cell 5;have ef:=p.blk.lt;have bd:=p.tab.le;obtain⟨s,a0,a3,dp,d1⟩:=zz5 p av t hO ci;clear p av t hO ci;go_wp2_with(at_builtin;refine zajq _ rfl (.tmp 22) (.tmp 24) 28 rfl B Zap Tryz.underlying28 rfl (by decide) _ k (ivals O1) rfl (a3.out.alloc _) wr.heap.size [.int .i64 k] rfl (Bk.new _ _ _) rfl (by simp[Value.oneCell']) (by omega) (by omega) (by simp;omega) ?_;intro v1 w5 D ea X _;obtain⟨gv,cv,rfl⟩:=ownsRow_succ D;obtain⟨q1,q2,q3,q4⟩:=(s.out.below ((zr wr.heap.size wr).alloc zl (.cells #[.int .i64 (k:Int)] 3))).grown (O':=O1++[(k:Int)]) (by rw[Zqu,zA,dp.out];exact D) X;have q5:=q1.cell 5;have q6:=q1.frozen 5;simp only[List.getElem?_cons_succ,List.getElem?_cons_zero]at q5;have q7:=a0.out.trans (((zr B wr).alloc bd _).trans q3);obtain⟨dr,ca,ds,cb,b5⟩:=zz5 q1 q2 q3 q4 q7;clear q1 q2 q3 q4 q7);exact⟨⟨k+1,_,by omega,by simp,by rw[d1.out];exact ca.out,b5.out⟩,by simp[intOf];omega⟩
  ·obtain rfl:k=M:=by omega
   have ce:Ctr wr B g bc be tv N T L (N+((exH T (L.map nm) 0).length:Nat)) sv bz (relab (numE N T (L.map nm) (exH T (L.map nm) 0)) T.length) (outO T N.toNat (exH T (L.map nm) 0)):=by
    have e1:exH T (L.map nm) 0=[]:=rfl;rw[e1,numE_nil,relab_vt];unfold outO;rw[show N.toNat=k by omega];simpa using p
   clear p;obtain⟨b0,a0,fa⟩:=zz3 ce av hM;clear ce av hM;go_wp2_with fail;go_loopw[30] (fun iv wq=>∃v:Nat,∃wv',(v:Int)<=N/\iv=.int .i64 (v:Int)/\Ctr wq B g bc be tv N T L (N+((exH T (L.map nm) v).length:Nat)) sv wv' (relab (numE N T (L.map nm) (exH T (L.map nm) v)) T.length) (outO T N.toNat (exH T (L.map nm) v))/\Below B w wq) (fun iv _=>N.toNat-(intOf iv).toNat)
   case atStart=>exact⟨0,bz,by omega,rfl,b0.out,a0.out⟩
   case round =>
    obtain⟨v,az,hv,rfl,p,I⟩:=hrel;clear b0 a0;by_cases ay:(v:Int)<N
    ·obtain⟨E,bg,ac⟩:=p.ends;have bh:=ac (v:Int);have e2:wr.cell? ⟨g,2,none⟩=some (.map (some be)):=p.blk.cell 2;obtain⟨ne,Y⟩:∃ne,Zbr L (v:Int)=ne:=⟨_,rfl⟩;rw[Y]at bh;have fs:ne<=1000:=by have:=Zgm L (v:Int);omega
     have cs:I64 (v:Int):=by unfold I64;omega
     by_cases h0:ne=0
     ·have ax:=exH_skip hs hgd ay (by rw[Y,h0]);obtain⟨cz,d0,s,x,d5,b3⟩:=zz6 bg ac p I Y ax;clear bg ac p I Y ax;go_wp2_with(at_lookup;refine zanq _ rfl _ _ 104 rfl 3 3 keyI Tryz.underlying104 Zcp be E rfl cz.out (v:Int) rfl cs ?_;rw[Ziw bh]);all_goals try omega
      exact⟨⟨v+1,az,by omega,by simp,by rw[b3.out];exact s.out,x.out⟩,by simp[intOf];omega⟩
     ·have cr:=sectors_calls p hs (v:Int) ⟨by omega,ay⟩;obtain⟨d0,s,x,d5,d9⟩:=zz5 ac p I Y cr;clear ac p I Y cr;go_wp2_with(at_lookup;refine zanq _ rfl _ _ 104 rfl 3 3 keyI Tryz.underlying104 Zcp be E rfl bg (v:Int) rfl cs ?_;rw[Ziw bh]);all_goals try omega
      refine d9.out.mono ?_;rintro e wS ⟨⟨r,S,rfl,am,ed⟩,bk⟩;obtain⟨aS,ew,rfl,fo,bi,de,a8⟩:=ed;have cg:=s.out.below bk;have bl:=x.out.trans (bk.mono s.out.tab.le);have eh:=s.out.blk.lt;have br:∀k,az.ownBlock=some k->k<wr.heap.size\/wS.heap.size<=k:=fun k z=>.inl (s.out.wow.lt k z).2
      have bs:∀k,sv.ownBlock=some k->k<wr.heap.size:=fun k z=>(s.out.sow.lt k z).2
      have em:=bk.size;obtain⟨lo,cn⟩:∃lo,lo=wr.heap.size:=⟨_,rfl⟩;rw[<- cn]at br bs bi a8 eh em;clear cn;have fh:S.length<=30000:=by have:=hdV_few T (L.map nm) (v:Int);have:=am.1;omega
      obtain⟨a4,b2,cy,c4,da,db⟩:=zz6 am a8 cg bl br bs;clear am a8 cg bl br bs;go_wp2_with fail;go_loopw[44] (fun iv wq=>∃j:Nat,∃wv',j<=S.length/\iv=.int .i64 (j:Int)/\Ctr wq B g bc be tv N T L (N+((parH T (L.map nm) v j).length:Nat)) sv wv' (relab (numE N T (L.map nm) (parH T (L.map nm) v j)) T.length) (outO T N.toNat (parH T (L.map nm) v j))/\Below B w wq/\wS.heap.size<=wq.heap.size/\(∀k,lo<=k->k<wS.heap.size->wq.heap[k]? = wS.heap[k]?)/\∀k,wv'.ownBlock=some k->k<lo\/wS.heap.size<=k) (fun iv _=>S.length-(intOf iv).toNat)
      case atStart=>exact⟨0,az,by omega,rfl,by rw[parH_zero];exact cy.out,c4.out,zl,fun _ _ _=>rfl,da.out⟩
      case round =>
       obtain⟨j,ah,hj,rfl,P,G,ct,Q,J⟩:=hrel;by_cases bn:j<S.length
       ·obtain⟨b,o,c9,ae,e6,e7,fr,fu,A⟩:=b2.out j bn;have f6:wr.cell? ⟨aS,j,none⟩=some (.slice (some ⟨b,o,none⟩) S[j].length c9):=(Zc5 (Q aS bi de)).trans ae;have ch:j<(hdV T (L.map nm) (v:Int)).length:=by rw[<- a4.out.1];exact bn
        have U:=a4.out.2 j S[j] _ (zG bn) (zG ch);by_cases ei:j=0
        ·subst ei;have cq:parH T (L.map nm) v 1=parH T (L.map nm) v 0:=by rw[parH_one,parH_zero]
         generalize S[0]=row at *;obtain⟨ai,u,a1,y,d7,W,au,d8⟩:=zz8 P G Q J cq A U ae;clear P G Q J cq A U ae;go_wp2_with fail;exact⟨⟨1,ah,by omega,rfl,by rw[d7.out];exact ai.out,u.out,ct,a1.out,y.out⟩,by simp[intOf];omega⟩
        ·obtain⟨p1,p2,p3,p4,p5⟩:=parH_step hs ay (by omega) (zG ch);have pl:=parH_few (T:=T) (C:=L.map nm) v j;have a7:=relab_row (N:=N) (n:=T.length) p2 p3 p4 U;generalize (hdV T (L.map nm) (v:Int))[j]=hh at *;generalize S[j]=row at *;generalize parH T (L.map nm) v j=H at *;obtain⟨m,R⟩:∃m,m=N+(H.length:Nat):=⟨_,rfl⟩;have f5:0<=m/\m<=50000:=by omega
         rw[<- R]at a7;have cf:Ctr wr B g bc be tv N T L m sv ah (relab (fun c=>if c∈row.take 0 then m else numE N T (L.map nm) H c) T.length) (outO T N.toNat H):=by
          have K:=P;rw[<- R]at K;have z:(fun c=>if c∈row.take 0 then m else numE N T (L.map nm) H c)=numE N T (L.map nm) H:=funext fun c=>by simp
          rw[z];exact K
         clear P;obtain⟨cx,u,a1,y,b4,fb,fc,fd,dq,W,au,d8⟩:=zz12 cf G Q J p1 p2 p3 p4 p5 A U ae;obtain⟨b1,aj⟩:=zz2 a7 R;clear cf G Q J p1 p2 p3 p4 p5 A U ae a7 R;go_wp2_with fail;go_loopw[53] (fun iv wq=>∃i:Nat,i<=row.length/\iv=.int .i64 (i:Int)/\Ctr wq B g bc be tv N T L m sv ah (relab (fun c=>if c∈row.take i then m else numE N T (L.map nm) H c) T.length) (outO T N.toNat H)/\Below B w wq/\wS.heap.size<=wq.heap.size/\(∀k,lo<=k->k<wS.heap.size->wq.heap[k]? = wS.heap[k]?)) (fun iv _=>row.length-(intOf iv).toNat)
         case atStart=>exact⟨0,by omega,rfl,cx.out,u.out,ct,a1.out⟩
         case round =>
          obtain⟨i,hi,rfl,l,a5,cu,ad⟩:=hrel;obtain⟨f,el⟩:∃f,f=wr:=⟨_,rfl⟩;subst el;by_cases bm:i<row.length
          ·have eb:=(Zc5 (ad b e6 e7)).trans (W.out i bm);have fk:=((au.out row[i]).1 (zM bm)).1;have a6:=take_fun m (numE N T (L.map nm) H) bm;have an:=l.sow;rw[Zbn]at an;obtain⟨a,cc,ej,haB,fj⟩:=Zbx an (by omega);clear an;subst ej;obtain⟨A9,ev,z,aw⟩:=zaeq l.sow;rw[Zbn]at aw;have f1:T.length<=cc:=by injection z with _ _ e8;omega
           clear z aw;have f3:=db.out a rfl;obtain⟨d,q,hd,hq,ft,ec⟩:∃d q:Nat,((row[i]:Nat):Int)/3=(d:Int)/\((row[i]:Nat):Int)%3=(q:Int)/\q<3/\row[i]=d*3+q:=⟨row[i]/3,row[i]%3,by omega,by omega,by omega,by omega⟩;have fm:d<T.length:=by omega
           have e3:f.cell? ⟨g,3,none⟩=some (.int .i64 m):=l.blk.cell 3;have e4:f.cell? ⟨g,4,none⟩=some (.slice (some ⟨a,0,none⟩) T.length cc):=l.blk.cell 4;have cm:g≠a:=fun e8=>by
            rcases Zdq l.sow l.blk (by decide)with K|K
            ·cases K
            ·exact K (by rw[e8];rfl)
           have V:=l.sow;rw[Zbn]at V;have fv:f.cell? ⟨a,d*3+q,none⟩=some (.int .i64 (Mesh.vt (relab (fun c=>if c∈row.take i then m else numE N T (L.map nm) H c) T.length) (d*3+q))):=by
            rw[V.cellAt _ (by omega)];exact Zd7 (by rw[Zbn];omega)
           have ee:=V.frozenAt (d*3+q);have f2:f.drew.frozen? ⟨a,d*3+q,none⟩=false:=ee;rw[ec]at a6 eb;have fl:row[i]<=30000:=by omega
           generalize row[i]=c at *;generalize Mesh.vt (relab (fun c=>if c∈row.take i then m else numE N T (L.map nm) H c) T.length) (d*3+q)=old at *;have f0:(d*3+q)/3*3+q%3=d*3+q:=by omega
           obtain⟨Z,O,a2,aa,er⟩:=zz5 l a5 ad a6 V;clear l a5 ad a6 V;go_wp2_with fail;refine Canon.wp_region_tree [4,13] (fun b9=>b9=g) (.seg [0,5,6,7,8,9] (.alt 1 (.seg [2,3,4,14] (.alt 10 (.seg [11,12,13,15] (.alt 16 .fin .no)) .no)) (.alt 10 (.seg [11,12,13] (.alt 1 (.seg [2,3,4,14,15] (.alt 16 .fin .no)) .no)) .no))) mixed (by kernel_rfl) ?_;refine Canon.tr_seg ?_;simp only[zm,zg];go_wp2_with fail;refine Canon.tr_to (Canon.tr_alt ?_ (Canon.tr_one ?_))
           ·simp only[zg];go_wp2_with fail;refine Canon.tr_end (fun _ _=>rfl) (Canon.tr_seg ?_);simp only[zm,zg];go_wp2_with fail;refine Canon.tr_to (Canon.tr_one ?_);simp only[zg];go_wp2_with fail;refine Canon.tr_end (fun _ _=>rfl) (Canon.tr_seg ?_);simp only[zm,zg];go_wp2_with fail;refine Canon.tr_to (Canon.tr_one ?_);simp only[zg];go_wp2_with fail;refine Canon.tr_end (fun b9 hb9=>by subst hb9;exact Below.heap_setCell f.drew ⟨a,d*3+q,none⟩ _ b9 (by show b9≠a;exact cm)) (Canon.tr_fin (by rfl) (zF ⟨.inl ⟨_,rfl,rfl,by rw[zw,e4];rfl⟩,zF ⟨.inl ⟨_,rfl,rfl,by rw[zw,e3];rfl⟩,fun _ h=>by cases h⟩⟩) ?_);obtain⟨t1,t2,t3⟩:=(Z.out.below (zr f.heap.size f).drew).put (c:=d*3+q) (by omega) m;have t4:=O.out.trans ((zr B f).drew.trans t2);have t5:∀k,k≠a->(f.drew.setCell ⟨a,d*3+q,none⟩ (.int .i64 m)).heap[k]? = f.heap[k]?:=t3;have t6:f.heap.size<=(f.drew.setCell ⟨a,d*3+q,none⟩ (.int .i64 m)).heap.size:=(KeepsOthers.setCell f.drew ⟨a,d*3+q,none⟩ (.int .i64 m)).size;obtain⟨b6,dt,du,b7,b8⟩:=zz5 t1 t2 t3 t4 t5;clear t1 t2 t3 t4 t5;go_wp2_with fail;refine⟨⟨i+1,by omega,by simp,?_,b7.out,Nat.le_trans cu t6,?_⟩,by simp[intOf];omega⟩
            ·have K:=b6.out;rw[aa.out]at K;exact K
            ·exact fun F h1 h2=>(b8.out F (by omega)).trans (a2.out F h1 h2)
           ·simp only[zg];go_wp2_with fail;refine Canon.tr_end (fun _ _=>rfl) (Canon.tr_seg ?_);simp only[zm,zg];go_wp2_with fail;refine Canon.tr_to (Canon.tr_one ?_);simp only[zg];go_wp2_with fail;refine Canon.tr_end (fun _ _=>rfl) (Canon.tr_seg ?_);simp only[zm,zg];go_wp2_with fail;refine Canon.tr_to (Canon.tr_one ?_);simp only[zg];go_wp2_with fail;refine Canon.tr_end (fun b9 hb9=>by subst hb9;exact Below.heap_setCell f.drew ⟨a,d*3+q,none⟩ _ b9 (by show b9≠a;exact cm)) (Canon.tr_fin (by rfl) (zF ⟨.inl ⟨_,rfl,rfl,by rw[zw,e4];rfl⟩,zF ⟨.inl ⟨_,rfl,rfl,by rw[zw,e3];rfl⟩,fun _ h=>by cases h⟩⟩) ?_);obtain⟨t1,t2,t3⟩:=(Z.out.below (zr f.heap.size f).drew).put (c:=d*3+q) (by omega) m;have t4:=O.out.trans ((zr B f).drew.trans t2);have t5:∀k,k≠a->(f.drew.setCell ⟨a,d*3+q,none⟩ (.int .i64 m)).heap[k]? = f.heap[k]?:=t3;have t6:f.heap.size<=(f.drew.setCell ⟨a,d*3+q,none⟩ (.int .i64 m)).heap.size:=(KeepsOthers.setCell f.drew ⟨a,d*3+q,none⟩ (.int .i64 m)).size;obtain⟨b6,dt,du,b7,b8⟩:=zz5 t1 t2 t3 t4 t5;clear t1 t2 t3 t4 t5;go_wp2_with fail;refine⟨⟨i+1,by omega,by simp,?_,b7.out,Nat.le_trans cu t6,?_⟩,by simp[intOf];omega⟩
            ·have K:=b6.out;rw[aa.out]at K;exact K
            ·exact fun F h1 h2=>(b8.out F (by omega)).trans (a2.out F h1 h2)
          ·obtain rfl:i=row.length:=by omega
           rw[List.take_length,b1.out,<- b4.out]at l;have co:outO T N.toNat (parH T (L.map nm) v (j+1))=outO T N.toNat H++[(v:Int)]:=by rw[b4.out,outO_snoc,dq.out]
           have cp:(outO T N.toNat H).length=N.toNat+H.length:=Ziz _ _ _;have t:=l.wow;obtain⟨m9,bo⟩:∃m9,(outO T N.toNat H).length=m9:=⟨_,rfl⟩;rw[bo]at t cp;have bp:N+((parH T (L.map nm) v (j+1)).length:Nat)=m+1:=by rw[b4.out,zA,List.length_singleton,aj.out];omega
           generalize outO T N.toNat H=O1 at *;have e5:f.cell? ⟨g,5,none⟩=some ah:=l.blk.cell 5;have ef:=l.blk.lt;have bd:=l.tab.le;have f4:m9<=60000:=by omega
           clear cp;obtain⟨Z,O,a2,a3,d6,d4,c5⟩:=zz7 l a5 ad t co bo bp;clear l a5 ad t co bo bp;go_wp2_with(at_builtin;refine zajq _ rfl (.tmp 78) (.tmp 80) 28 rfl B Zap Tryz.underlying28 rfl (by decide) _ m9 (ivals O1) rfl (a3.out.alloc _) f.heap.size [.int .i64 v] rfl (Bk.new _ _ _) rfl (by simp[Value.oneCell']) (by omega) (by omega) (by simp;omega) ?_);intro v1 w5 D ea X bj;obtain⟨gv,cv,rfl⟩:=ownsRow_succ D;obtain⟨q1,q2,q3,q4⟩:=(Z.out.below ((zr f.heap.size f).alloc zl (.cells #[.int .i64 (v:Int)] 3))).grown (O':=O1++[(v:Int)]) (by rw[Zqu,zA,d4.out];exact D) X;have q5:=q1.cell 5;have q6:=q1.frozen 5;simp only[List.getElem?_cons_succ,List.getElem?_cons_zero]at q5;have q7:=O.out.trans (((zr B f).alloc bd _).trans q3);have r3:=q2.blk.cell 3;have r4:=q2.blk.frozen 3;simp only[List.getElem?_cons_succ,List.getElem?_cons_zero]at r3;obtain⟨c1,c2,c3⟩:=q2.count (m+1);have fp:f.heap.size+1<=w5.heap.size:=by(have:=X.size;simpa using this)
           have fw:=(KeepsOthers.setCell w5 ⟨g,5,none⟩ (.slice (some ⟨gv,0,none⟩) (m9+1) cv)).size;have fx:=(KeepsOthers.setCell (w5.setCell ⟨g,5,none⟩ (.slice (some ⟨gv,0,none⟩) (m9+1) cv)) ⟨g,3,none⟩ (.int .i64 (m+1))).size;obtain⟨dr,ca,ds,cb,b5,dk,dl,dm,c0,et⟩:=zz10 q1 q2 q3 q4 q7 c1 c2 c3 bj X;clear q1 q2 q3 q4 q7 c1 c2 c3 bj X;go_wp2_with fail;refine⟨⟨j+1,.slice (some ⟨gv,0,none⟩) (m9+1) cv,by omega,by simp,?_,b5.out.trans dl.out,by omega,?_,?_⟩,by simp[intOf];omega⟩
           ·rw[d6.out,c5.out];exact dk.out
           ·intro F h1 h2;rw[dm.out F (by omega),cb.out F (by simp;omega) (by omega) (fun z=>by rcases y.out F z.symm with h|h<;>omega)];exact(Below.heap_alloc f _ F (by omega)).trans (a2.out F h1 h2)
           ·intro F z;rcases c0.out with h|h
            ·exact y.out F (h.symm.trans z)
            ·right;rw[h]at z;have:f.heap.size+1=F:=by simpa using z
             omega
       ·have ak:parH T (L.map nm) v j=exH T (L.map nm) (v+1):=parH_end hs ay (by rw[<- a4.out.1];omega);rw[ak]at P;obtain⟨ai,u,a1,y,ep⟩:=zz5 P G Q J ak;clear P G Q J ak;go_wp2_with fail;exact⟨⟨v+1,ah,by omega,by simp,ai.out,u.out⟩,by simp[intOf];omega⟩
    ·have bq:N.toNat=v:=by omega
     have R:((newO N T (L.map nm)).length:Int)=N+((exH T (L.map nm) v).length:Nat):=by rw[Zq2,Ziz,bq];omega
     have ck:newX N T (L.map nm)=relab (numE N T (L.map nm) (exH T (L.map nm) v)) T.length:=by unfold newX;rw[newN_eq,bq]
     have cj:newO N T (L.map nm)=outO T N.toNat (exH T (L.map nm) v):=by rw[Zq2,bq]
     obtain⟨s,x,aj,d3,d2⟩:=zz5 p I R ck cj;clear p I R ck cj;go_wp2_with fail
     (try simp only[Exit.inBlock,Exit.then]);refine bodyPost_end (results_none rfl _ _ _) rfl ?_
     exact⟨rfl,⟨az,by rw[aj.out,d3.out,d2.out];exact s.out⟩,x.out⟩
open Go Go.RowKit Go.Words Go.Mesh
theorem Zhm{P:Program}{fn:Func}{p q r s:Tmp}{ty:TypeId}(h:fn.results=#[.cell p ty,.tmp q,.tmp r,.tmp s]){R:Ending->World->Prop}{a:Act}{w:World}{g:Nat}{t:TypeId}{cs:List Value}{d:TypeDesc}
  (hp:a.tmps.getD p undef=.pointer (some ⟨g,0,none⟩)) (hg:Bk w g t cs) (hu:P.underlying ty=some d)
  (hd:(match d with | .struct _ | .array _ _=>true|_=>false)=true) (hi:(P.info? ty).map (·.size)=some cs.length) (hde:a.defers=[])
  (hR:R (.returned (.tuple #[.agg cs.toArray,a.tmps.getD q undef,a.tmps.getD r undef,a.tmps.getD s undef])) w):bodyPost P fn R .ret a w:=by
 refine bodyPost_ret ?_ hde hR;have b:a.tmps[p]?.getD undef=.pointer (some ⟨g,0,none⟩):=by simpa using hp
 simp[results,h,b,asAddr,run_loadVar_row w g t ty cs.toArray (0,0) d hg hu hd (by simpa using hi)]
abbrev failV(c:Int):Value:=.tuple #[.agg #[.int .i64 0,.slice none 0 0],.slice none 0 0,.slice none 0 0,.int .i64 c]
theorem Zn6(w:World):(Instr.build 24 #[]).run Tryz.prog w=.ok (.agg #[.int .i64 0,.slice none 0 0]) w:=by kernel_rfl
theorem Zmw(c:Int)(w:World):Calls Tryz.prog 60 #[.int .i64 c] w fun e w'=>e=.returned (failV c)/\Below w.heap.size w w':=by
 have a:=(Bk.new w 24 [.int .i64 0,.slice none 0 0]);have f:=(zr w.heap.size w).alloc zl (.cells #[.int .i64 0,.slice none 0 0] 24);have j:=a.frozen 0;have g:=a.cell 0;have h:=a.cell 1;simp only[List.getElem?_cons_zero,List.getElem?_cons_succ]at g h;have i:=Zn6;obtain⟨d,b⟩:=zz2 a f;clear a f;go_enter Tryz.func60,Tryz.ntmps60;go_wp2_with fail;exact Zhm rfl rfl d.out Tryz.underlying24 rfl (by kernel_rfl) rfl ⟨rfl,b.out⟩
theorem Zol{w:World}{b b' size n:Nat}{e:TypeId}{v:Value}{xs:List Value}(hb:b'<=b)(h:w.ownsRow b e size v n xs):w.ownsRow b' e size v n xs:=by
 refine⟨h.1,?_⟩;rcases h.2 with a|⟨f,c,d,a,i,g⟩
 ·exact .inl a
 ·exact .inr ⟨f,c,d,a,by omega,g⟩
theorem soup_calls{w:World}{B:Nat}{tv:Value}{N:Int}{T:List T3}(h:Tab w B tv N T) :
  Calls Tryz.prog 62 #[tv] w fun e w'=>(∃E,e=.returned (.agg #[.int .i64 N,E])/\w'.ownsRow w.heap.size 57 3 E T.length (Zal T))/\Below w.heap.size w w':=by
 obtain⟨g,vt,gm,vf,m,F,rfl,J,_⟩:=h;have Y:=J.few;have S:g<w.heap.size:=J.blk.lt;have a2:=J.le;have L:=(zr w.heap.size w).alloc zl (.cells #[.int .i64 0,.slice none 0 0] 24);have U:=Bk.new w 24 [.int .i64 0,.slice none 0 0];have D:=J.below L a2;obtain⟨l,O⟩:∃l,l=w.alloc (.cells #[.int .i64 0,.slice none 0 0] 24):=⟨_,rfl⟩;rw[<- O]at L U D;have a8:l.heap.size=w.heap.size+1:=by rw[O];simp
 have K:w.heap.size<l.heap.size:=by omega
 have o:g<l.heap.size:=by omega
 have P:l.cell? ⟨g,0,none⟩=some (.int .i64 N):=D.blk.cell 0;have Q:l.cell? ⟨g,1,none⟩=some vt:=D.blk.cell 1;have R:=Ztw (w:=l.drew) (D.tris.below zaaq ((zr B l).drew)) Y
 change Calls _ _ _ _ (fun e w'=>(∃E,e=.returned E/\w'.ownsRow l.heap.size 57 3 E T.length (Zal T))/\Below l.heap.size l.drew w')at R
 obtain⟨A,a7,a3,a5⟩:=J.tris.form;subst a3;obtain⟨a6,a4,I,G,H⟩:=zz5 J D U L R;clear J D U L R;go_enter Tryz.func62,Tryz.ntmps62;go_wp2_with fail;rw[<- O];clear O;refine Canon.wp_region_tree [4,9] (fun j=>j=g) (.seg [0,5] (.alt 1 (.seg [2,3,4] (.alt 6 (.seg [7,8,9] (.alt 10 (.seg [11] (.alt 12 .fin .no)) .no)) .no)) (.alt 6 (.seg [7,8,9] (.alt 1 (.seg [2,3,4] (.alt 10 (.seg [11] (.alt 12 .fin .no)) .no)) (.alt 10 (.alt 1 (.seg [2,3,4,11] (.alt 12 .fin .no)) .no) .no))) .no))) mixed (by kernel_rfl) ?_;refine Canon.tr_seg ?_;simp only[zm,zg];go_wp2_with fail;refine Canon.tr_to (Canon.tr_alt ?_ (Canon.tr_one ?_))
 ·simp only[zg];go_wp2_with fail;refine Canon.tr_end (fun _ _=>rfl) (Canon.tr_seg ?_);simp only[zm,zg];go_wp2_with fail;refine Canon.tr_to (Canon.tr_one ?_);simp only[zg];go_wp2_with fail;refine Canon.tr_end (fun _ _=>rfl) (Canon.tr_seg ?_);simp only[zm,zg];go_wp2_with fail;refine Canon.tr_to (Canon.tr_one ?_);simp only[zg];go_wp2_with fail;refine H.out.mono ?_;rintro e C ⟨⟨E,rfl,i⟩,a⟩;obtain⟨n,d,rfl,M⟩:=zaeq i;have b:=I.out.drew.below a K;have f2:=b.frozen 0;have X:=b.frozen 1;have V:=b.cell 0;have W:=b.cell 1;simp only[List.getElem?_cons_zero,List.getElem?_cons_succ]at V W;have Z:=(a.cell (p:=⟨g,0,none⟩) o).trans P;have d1:=(a.cell (p:=⟨g,1,none⟩) o).trans Q;have s:Canon.KeepU (fun j=>j=g) l.drew C:=fun j z=>by subst z;exact a.block j o
  obtain⟨c,f,u,k⟩:=zz4 i b a s;clear i b a s;go_wp2_with fail;refine Canon.tr_end k.out (Canon.tr_seg ?_);simp only[zm,zg];go_wp2_with fail;refine Canon.tr_to (Canon.tr_one ?_);simp only[zg];go_wp2_with fail;refine Canon.tr_end ?_ ?_
  ·intro j z;subst z;exact((((zr w.heap.size C).setCell (p:=⟨w.heap.size,0,none⟩) zl (.int .i64 N)).setCell (p:=⟨w.heap.size,1,none⟩) zl (.slice n T.length d)).block j S).trans (k.out j rfl)
  refine Canon.tr_fin (by rfl) (zF ⟨.inl ⟨_,rfl,rfl,by rw[zw,P];rfl⟩,zF ⟨.inl ⟨_,rfl,rfl,by rw[zw,Q];rfl⟩,fun _ h=>by cases h⟩⟩) ?_;have r:=(f.out.set 0 (.int .i64 N)).set 1 (.slice n T.length d);have q:=((G.out.drew.trans (u.out.mono (by omega))).setCell (p:=⟨w.heap.size,0,none⟩) zl (.int .i64 N)).setCell (p:=⟨w.heap.size,1,none⟩) zl (.slice n T.length d);have t:=(c.out.kept (Zar C w.heap.size 0 (.int .i64 N)) (Zdq c.out f.out (by decide))).kept (Zar _ w.heap.size 1 (.slice n T.length d)) (Zdq c.out f.out (by decide));obtain⟨x,v,y⟩:=zz3 r q t;clear r q t;go_wp2_with fail;exact Zbg rfl rfl x.out Tryz.underlying24 rfl (by kernel_rfl) rfl ⟨⟨_,rfl,Zol (by omega) y.out⟩,v.out⟩
 ·simp only[zg];go_wp2_with fail;refine Canon.tr_end (fun _ _=>rfl) (Canon.tr_seg ?_);simp only[zm,zg];go_wp2_with fail;refine Canon.tr_to (Canon.tr_alt ?_ (Canon.tr_one ?_))
  ·simp only[zg];go_wp2_with fail;refine Canon.tr_end (fun _ _=>rfl) (Canon.tr_seg ?_);simp only[zm,zg];go_wp2_with fail;refine Canon.tr_to (Canon.tr_one ?_);simp only[zg];go_wp2_with fail;refine H.out.mono ?_;rintro e C ⟨⟨E,rfl,i⟩,a⟩;obtain⟨n,d,rfl,M⟩:=zaeq i;have b:=I.out.drew.below a K;have f2:=b.frozen 0;have X:=b.frozen 1;have V:=b.cell 0;have W:=b.cell 1;simp only[List.getElem?_cons_zero,List.getElem?_cons_succ]at V W;have Z:=(a.cell (p:=⟨g,0,none⟩) o).trans P;have d1:=(a.cell (p:=⟨g,1,none⟩) o).trans Q;have s:Canon.KeepU (fun j=>j=g) l.drew C:=fun j z=>by subst z;exact a.block j o
   obtain⟨c,f,u,k⟩:=zz4 i b a s;clear i b a s;go_wp2_with fail;refine Canon.tr_end k.out (Canon.tr_seg ?_);simp only[zm,zg];go_wp2_with fail;refine Canon.tr_to (Canon.tr_one ?_);simp only[zg];go_wp2_with fail;refine Canon.tr_end ?_ ?_
   ·intro j z;subst z;exact((((zr w.heap.size C).setCell (p:=⟨w.heap.size,0,none⟩) zl (.int .i64 N)).setCell (p:=⟨w.heap.size,1,none⟩) zl (.slice n T.length d)).block j S).trans (k.out j rfl)
   refine Canon.tr_fin (by rfl) (zF ⟨.inl ⟨_,rfl,rfl,by rw[zw,P];rfl⟩,zF ⟨.inl ⟨_,rfl,rfl,by rw[zw,Q];rfl⟩,fun _ h=>by cases h⟩⟩) ?_;have r:=(f.out.set 0 (.int .i64 N)).set 1 (.slice n T.length d);have q:=((G.out.drew.trans (u.out.mono (by omega))).setCell (p:=⟨w.heap.size,0,none⟩) zl (.int .i64 N)).setCell (p:=⟨w.heap.size,1,none⟩) zl (.slice n T.length d);have t:=(c.out.kept (Zar C w.heap.size 0 (.int .i64 N)) (Zdq c.out f.out (by decide))).kept (Zar _ w.heap.size 1 (.slice n T.length d)) (Zdq c.out f.out (by decide));obtain⟨x,v,y⟩:=zz3 r q t;clear r q t;go_wp2_with fail;exact Zbg rfl rfl x.out Tryz.underlying24 rfl (by kernel_rfl) rfl ⟨⟨_,rfl,Zol (by omega) y.out⟩,v.out⟩
  ·simp only[zg];go_wp2_with fail;refine H.out.mono ?_;rintro e C ⟨⟨E,rfl,i⟩,a⟩;obtain⟨n,d,rfl,M⟩:=zaeq i;have b:=I.out.drew.below a K;have f2:=b.frozen 0;have X:=b.frozen 1;have V:=b.cell 0;have W:=b.cell 1;simp only[List.getElem?_cons_zero,List.getElem?_cons_succ]at V W;have Z:=(a.cell (p:=⟨g,0,none⟩) o).trans P;have d1:=(a.cell (p:=⟨g,1,none⟩) o).trans Q;have s:Canon.KeepU (fun j=>j=g) l.drew C:=fun j z=>by subst z;exact a.block j o
   obtain⟨c,f,u,k⟩:=zz4 i b a s;clear i b a s;go_wp2_with fail;refine Canon.tr_end k.out (Canon.tr_one ?_);simp only[zg];go_wp2_with fail;refine Canon.tr_end k.out (Canon.tr_seg ?_);simp only[zm,zg];go_wp2_with fail;refine Canon.tr_to (Canon.tr_one ?_);simp only[zg];go_wp2_with fail;refine Canon.tr_end ?_ ?_
   ·intro j z;subst z;exact((((zr w.heap.size C).setCell (p:=⟨w.heap.size,0,none⟩) zl (.int .i64 N)).setCell (p:=⟨w.heap.size,1,none⟩) zl (.slice n T.length d)).block j S).trans (k.out j rfl)
   refine Canon.tr_fin (by rfl) (zF ⟨.inl ⟨_,rfl,rfl,by rw[zw,P];rfl⟩,zF ⟨.inl ⟨_,rfl,rfl,by rw[zw,Q];rfl⟩,fun _ h=>by cases h⟩⟩) ?_;have r:=(f.out.set 0 (.int .i64 N)).set 1 (.slice n T.length d);have q:=((G.out.drew.trans (u.out.mono (by omega))).setCell (p:=⟨w.heap.size,0,none⟩) zl (.int .i64 N)).setCell (p:=⟨w.heap.size,1,none⟩) zl (.slice n T.length d);have t:=(c.out.kept (Zar C w.heap.size 0 (.int .i64 N)) (Zdq c.out f.out (by decide))).kept (Zar _ w.heap.size 1 (.slice n T.length d)) (Zdq c.out f.out (by decide));obtain⟨x,v,y⟩:=zz3 r q t;clear r q t;go_wp2_with fail;exact Zbg rfl rfl x.out Tryz.underlying24 rfl (by kernel_rfl) rfl ⟨⟨_,rfl,Zol (by omega) y.out⟩,v.out⟩
