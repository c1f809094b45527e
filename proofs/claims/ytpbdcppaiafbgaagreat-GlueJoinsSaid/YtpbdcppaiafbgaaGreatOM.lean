/- Za6: an octahedron as a body, opened along its equator, and. -/
import Derived.Test.YtpbdcppaiafbgaaGreatOI
import Derived.Test.YtpbdcppaiafbgaaGreatOJ
import Derived.Test.YtpbdcppaiafbgaaGreatOL
set_option maxRecDepth 100000
set_option maxHeartbeats 8000000
namespace Go.Mesh
def octP:List T3:=[(0,0,1),(1,0,0),(0,1,0),(-1,0,0),(0,-1,0),(0,0,-1)]
def octQ:List T3:=[(0,0,1),(1,0,0),(0,1,0),(-1,0,0),(0,-1,0),(0,0,-1),(1,0,0),(0,1,0),(-1,0,0),(0,-1,0)]
theorem ptsOf_oct:Zee octP octO=octQ:=by decide +kernel
theorem lpE_oct:lpE [1,2,3,4]=octL:=by decide +kernel
theorem Zpw:Surf 10 octX:=Zhw (by decide +kernel)
theorem Zvt{N:Int}{T:List T3}(h:Surf N T)(f:Nat->Bool)(hf:∀y,y<T.length->∀x,x<T.length->besd T y x=true->f y=f x){s:Nat}:∀ {d x:Nat},rch T s d x=true->f s=f x
 | 0,x,h1=>by rw[rch_zero.1 h1]
 | d+1,x,h1=>by
  rcases h.rch_succ.1 h1 with a|⟨y,a,b⟩
  ·exact Zvt h f hf a
  ·rw[Zvt h f hf a];exact hf y (h.besd_rng b).1 x (h.besd_rng b).2 b
theorem two_octX:¬Con octX 0 4:=fun⟨d,hd⟩=>by
 have c:((List.range 8).all fun y=>(List.range 8).all fun x=>!besd octX y x || (decide (y<4)==decide (x<4)))=true:=by decide +kernel
 have b:=Zvt Zpw (fun y=>decide (y<4)) (fun y hy x hx hb=>by
  have a:=List.all_eq_true.1 (List.all_eq_true.1 c y (zR.2 hy)) x (zR.2 hx);rw[hb]at a;simpa using a) hd
 exact absurd b (by decide)
theorem Pt.all_in{T:List T3}{out:List Int}{n:Nat}(h:Pt T out n T.length){x:Nat}(hx:x<T.length):∃i,i<n/\out[x]? = some (i:Int)/\Con T (sd T i) x:=by
 rcases h.is x hx with a|⟨a,_⟩
 ·exact a
 ·exact absurd a (h.done x hx)
theorem pt_oct{out:List Int}{n:Nat}(h:Pt oct out n oct.length):n=1:=by
 obtain⟨i,hi,_⟩:=h.all_in (x:=0) (by decide);by_cases a:2<=n
 ·exact absurd ⟨7,by decide +kernel⟩ (h.apart 0 1 (by omega) (by omega))
 ·omega
theorem pt_octX{out:List Int}{n:Nat}(h:Pt octX out n octX.length):2<=n:=by
 obtain⟨i,hi,_,c⟩:=h.all_in (x:=0) (by decide);obtain⟨j,f,_,d⟩:=h.all_in (x:=4) (by decide);by_cases e:2<=n
 ·exact e
 ·have a:i=0:=by omega
  have b:j=0:=by omega
  subst a b;exact absurd ((c.symm Zpw).trans Zpw d) two_octX
end Go.Mesh
namespace Go.Proofs.YtpbdcppaiafbgaaGreat
open Go Go.RowKit Go.Words Go.Mesh
theorem lpN_oct:lpN 6 oct [1,2,3,4]=0:=by decide +kernel
theorem mayB_oct:mayB 6 oct octP []=true:=by decide +kernel
theorem mayB_octX:mayB 10 octX octQ []=true:=by decide +kernel
theorem Zvd:(newO 6 oct ((lpE [1,2,3,4]).map nm))=octO:=by rw[lpE_oct];exact newO_oct
theorem newX_octL:(newX 6 oct ((lpE [1,2,3,4]).map nm))=octX:=by rw[lpE_oct];exact newX_oct
theorem side_oct{b:Bool}{c:Int}(h:SideC 6 oct [1,2,3,4] b c):b=true/\c=0:=by
 rcases h with⟨_,_,⟨a,_⟩|⟨_,⟨a,_⟩|⟨_,a,_⟩⟩⟩|⟨rfl,_,_,_,k,l,g,e,a,d,f⟩
 ·exact absurd Zpv a
 ·exact absurd lpN_oct a
 ·rw[Zvd]at a;exact absurd a (by decide)
 ·rw[newX_octL]at d;have i:=pt_oct a;have j:=pt_octX (n:=e) d;exact⟨by rw[f,zY];omega,rfl⟩
theorem open_oct{c:Int}(h:Zwo 6 oct octP [] [1,2,3,4] c):c=0:=by
 rcases h with⟨a,_⟩|⟨_,a,_⟩|⟨_,_,⟨a,_⟩|⟨_,a,_⟩|⟨_,_,a⟩⟩
 ·exact absurd Zpv a
 ·rw[mayB_oct]at a;cases a
 ·exact absurd lpN_oct a
 ·rw[Zvd]at a;exact absurd a (by decide)
 ·exact a
theorem open_made_oct{wz:World}{x o:Value}(h:Zot wz 6 oct octP [] [1,2,3,4] x o):∃b pv a,x=.agg #[.int .i64 10,b,pv,a]/\Sl 3 RTri wz wz.heap.size b octX/\Sl 3 RTri wz wz.heap.size pv octQ/\Sl 1 RInt wz wz.heap.size a []/\Sl 1 RInt wz wz.heap.size o octO:=by
 obtain⟨b,pv,a,d,e,c,g,f⟩:=h;rw[Zvd]at d c f;rw[newX_octL]at e;rw[ptsOf_oct]at c;exact⟨b,pv,a,d,e,c,g,f⟩
def octJ:List P4:=Za4 ((lps octX 10 10).getD 0 []) ((lps octX 10 10).getD 1 []) 0
theorem rnk_oct:rnk (labP octJ) 10=6:=by decide +kernel
theorem sewT_oct:sewT (labP octJ) octX=oct:=by decide +kernel
theorem jpt_oct:jpt (Zb4 (labP octJ) 10) octQ 6 10=octP:=by decide +kernel
theorem lps_oct:(lps octX 10 10).length=2/\((lps octX 10 10).getD 0 []).length=4/\((lps octX 10 10).getD 1 []).length=4:=by decide +kernel
theorem join_oct{c:Int}(h:Zqe 10 octX octQ [] 0 1 0 c):c=0:=by
 obtain⟨g,k,l⟩:=lps_oct;rcases h with⟨a,_⟩|⟨_,a,_⟩|⟨_,_,a,_⟩|⟨_,_,i,j,hi,f,o,p,a⟩
 ·exact absurd Zpw a
 ·rw[mayB_octX]at a;cases a
 ·rw[show(10:Int).toNat=10 from rfl,g]at a;omega
 ·obtain rfl:i=0:=by omega
  obtain rfl:j=1:=by omega
  have b:∀(L:List (List Nat)) (i:Nat) (hi:i<L.length),L[i]=L.getD i []:=fun L i hi=>by rw[zD,zG hi];rfl
  have d:(lps octX 10 (10:Int).toNat)[0]=(lps octX 10 10).getD 0 []:=b _ _ hi;have e:(lps octX 10 (10:Int).toNat)[1]=(lps octX 10 10).getD 1 []:=b _ _ f;rw[d,e]at a;have m:rnk (labP (Za4 ((lps octX 10 10).getD 0 []) ((lps octX 10 10).getD 1 []) 0)) (10:Int).toNat=6:=rnk_oct;have n:sewT (labP (Za4 ((lps octX 10 10).getD 0 []) ((lps octX 10 10).getD 1 []) 0)) octX=oct:=sewT_oct;rw[m,n]at a;rcases a with⟨a,_⟩|⟨_,a,_⟩|⟨_,_,⟨a,_⟩|⟨_,a⟩⟩
  ·exact absurd a (by decide)
  ·exact absurd (l.trans k.symm) a
  ·exact absurd Zpv a
  ·exact a
theorem join_made_oct{wz:World}{v:Value}(h:Zij wz 10 octX octQ [] 0 1 0 v):∃b pv a,v=.agg #[.int .i64 6,b,pv,a]/\Sl 3 RTri wz wz.heap.size b oct/\Sl 3 RTri wz wz.heap.size pv octP/\Sl 1 RInt wz wz.heap.size a []:=by
 obtain⟨b,pv,a,d,e,c,f⟩:=h;have g:rnk (labP (Za4 ((lps octX 10 (10:Int).toNat).getD (0:Int).toNat []) ((lps octX 10 (10:Int).toNat).getD (1:Int).toNat []) 0)) (10:Int).toNat=6:=rnk_oct;have i:sewT (labP (Za4 ((lps octX 10 (10:Int).toNat).getD (0:Int).toNat []) ((lps octX 10 (10:Int).toNat).getD (1:Int).toNat []) 0)) octX=oct:=sewT_oct;have j:jpt (Zb4 (labP (Za4 ((lps octX 10 (10:Int).toNat).getD (0:Int).toNat []) ((lps octX 10 (10:Int).toNat).getD (1:Int).toNat []) 0)) (10:Int).toNat) octQ 6 (10:Int).toNat=octP:=jpt_oct;rw[g]at d c;rw[i]at e;rw[j]at c;exact⟨b,pv,a,d,e,c,f⟩
open Go Go.RowKit Go.Words Go.Mesh
theorem Zzu(w:World):Calls Tryz.prog 85 #[] w fun e w'=>(∃g g2,e=.returned (.agg #[.int .i64 6,.slice (some ⟨g,0,none⟩) 8 8,.slice (some ⟨g2,0,none⟩) 6 6,.slice none 0 0])/\Bk w' g 57 (Zan oct)/\Bk w' g2 74 (Zal octP))/\Below w.heap.size w w':=by
 go_enter Tryz.func85,Tryz.ntmps85;go_wp2_with fail;have a:=(((Bk.new w 67 [.int .i64 6,.slice (some ⟨w.heap.size+1,0,none⟩) 8 8,.slice (some ⟨w.heap.size+1+1+1,0,none⟩) 6 6,.slice none 0 0]).alloc (.cells (Zan oct).toArray 57)).alloc (.cells #[.int .i64 6,.slice (some ⟨w.heap.size+1,0,none⟩) 8 8] 24)).alloc (.cells (Zal octP).toArray 74);have c:=((Bk.new' (n:=w.heap.size+1) (w:=w.alloc (.cells #[.int .i64 6,.slice (some ⟨w.heap.size+1,0,none⟩) 8 8,.slice (some ⟨w.heap.size+1+1+1,0,none⟩) 6 6,.slice none 0 0] 67)) 57 (Zan oct) (by simp)).alloc (.cells #[.int .i64 6,.slice (some ⟨w.heap.size+1,0,none⟩) 8 8] 24)).alloc (.cells (Zal octP).toArray 74);have b:=Bk.new' (n:=w.heap.size+1+1+1) (w:=((w.alloc (.cells #[.int .i64 6,.slice (some ⟨w.heap.size+1,0,none⟩) 8 8,.slice (some ⟨w.heap.size+1+1+1,0,none⟩) 6 6,.slice none 0 0] 67)).alloc (.cells (Zan oct).toArray 57)).alloc (.cells #[.int .i64 6,.slice (some ⟨w.heap.size+1,0,none⟩) 8 8] 24)) 74 (Zal octP) (by simp);exact Zbg rfl rfl a Tryz.underlying67 rfl (by kernel_rfl) rfl ⟨⟨_,_,rfl,c,b⟩,((((zr w.heap.size w).alloc zl _).alloc (by simp) _).alloc (by simp<;>omega) _).alloc (by simp<;>omega) _⟩
theorem sl_points{w:World}{g cap:Nat}{t:TypeId}{P:List T3}(h:Bk w g t (Zal P))(hc:P.length<=cap):Sl 3 RTri w w.heap.size (.slice (some ⟨g,0,none⟩) P.length cap) P :=
 Sl.of_block h hc fun i a hi=>⟨by rw[Za2];have:=(zS.1 hi).1;omega,Zeh _ i a hi⟩
theorem Zdu(w:World):Calls Tryz.prog 37 #[] w fun e w'=>e=.returned (.bool true)/\Below w.heap.size w w':=by
 have bd:=Zzu w;have bv:=zz bd;clear bd;go_enter Tryz.func37,Tryz.ntmps37;go_wp2_with fail;refine bv.out.mono ?_;rintro e f ⟨⟨g,z,rfl,Y,X⟩,bb⟩;have co:=bb.size;obtain⟨h,q⟩:∃h,h=(f.alloc (.cells #[.int .i64 6,.slice (some ⟨g,0,none⟩) 8 8,.slice (some ⟨z,0,none⟩) 6 6,.slice none 0 0] 67)).alloc (.cells #[.int .i64 1,.int .i64 2,.int .i64 3,.int .i64 4] 3):=⟨_,rfl⟩;have aj:Below f.heap.size f h:=by rw[q];exact((zr f.heap.size f).alloc zl _).alloc (by simp) _
 have bg:Bk h f.heap.size 67 [.int .i64 6,.slice (some ⟨g,0,none⟩) 8 8,.slice (some ⟨z,0,none⟩) 6 6,.slice none 0 0]:=by rw[q];exact(Bk.new f _ _).alloc _
 have an:Bk h (f.heap.size+1) 3 (ivals [1,2,3,4]):=by rw[q];exact Bk.new' (n:=f.heap.size+1) 3 (ivals [1,2,3,4]) (by simp)
 have K:Bk h g 57 (Zan oct):=Y.below aj Y.lt;have J:Bk h z 74 (Zal octP):=X.below aj X.lt;have eb:h.heap.size=f.heap.size+2:=by rw[q];simp
 have O:=bb.trans (aj.mono co);have af:Sl 3 RTri h h.heap.size (.slice (some ⟨g,0,none⟩) 8 8) oct:=Zjg (T:=oct) K (by decide);have aa:Sl 3 RTri h h.heap.size (.slice (some ⟨z,0,none⟩) 6 6) octP:=sl_points (P:=octP) J (by decide);have a5:Sl 1 RInt h h.heap.size (.slice none 0 0) []:=Sl.nil _ _;have a7:Sl 1 RInt h h.heap.size (.slice (some ⟨f.heap.size+1,0,none⟩) 4 4) [1,2,3,4]:=Zk7 (l:=[1,2,3,4]) (cap:=4) an (by decide);have ao:∀x∈([1,2,3,4]:List Int),I64 x:=fun x hx=>by
  simp only[List.mem_cons,List.not_mem_nil,or_false]at hx;unfold I64;omega
 have bj:=Zgz (w:=h) (B:=h.heap.size) (N:=6) zl af aa a5 (I64.nat (n:=6) (by decide)) (by decide) (by decide) (by decide) a7 ao (by decide);obtain⟨d8,d7,bx,d6,M,L,cz,cv,cq,cs,bz⟩:=zz11 Y X bg an K J af aa a5 a7 bj;clear Y X bg an K J af aa a5 a7 bj;go_wp2_with fail;rw[<- q];clear q;go_wp2_with fail;refine bz.out.mono ?_;rintro e d ⟨⟨x,o,c,rfl,hc,_,bi⟩,C⟩;obtain rfl:=open_oct hc;obtain⟨sv,pv,kv,rfl,sX,sQ,sK,sO⟩:=open_made_oct (bi rfl d fun _ _ _=>rfl);obtain⟨A1,p1,rfl,e4⟩:=sX.form;obtain⟨A2,p2,rfl,e5⟩:=sQ.form;obtain⟨A3,p3,rfl,e6⟩:=sK.form;obtain⟨A4,p4,rfl,e7⟩:=sO.form;rw[show octX.length=8 from rfl]at *;rw[show octQ.length=10 from rfl]at *;rw[show octO.length=10 from rfl]at *;rw[show([]:List Int).length=0 from rfl]at *;clear bi hc;have ec:=C.size;have Q:=O.trans (C.mono O.size);have G:=bx.out.below C (by omega);have a0:=M.out.below C M.out.lt;have Z:=L.out.below C L.out.lt;obtain⟨j,r⟩:∃j,j=(d.alloc (.cells #[.int .i64 10,.slice A1 8 p1,.slice A2 10 p2,.slice A3 0 p3] 67)).alloc (.cells #[.int .i64 1,.int .i64 2,.int .i64 3,.int .i64 4] 3):=⟨_,rfl⟩;have p:Below d.heap.size d j:=by rw[r];exact((zr d.heap.size d).alloc zl _).alloc (by simp) _
 have ed:j.heap.size=d.heap.size+2:=by rw[r];simp
 have bn:Bk j d.heap.size 67 [.int .i64 10,.slice A1 8 p1,.slice A2 10 p2,.slice A3 0 p3]:=by rw[r];exact(Bk.new d _ _).alloc _
 have av:Bk j (d.heap.size+1) 3 (ivals [1,2,3,4]):=by rw[r];exact Bk.new' (n:=d.heap.size+1) 3 (ivals [1,2,3,4]) (by simp)
 have bl:=G.below p (by omega);have aw:=a0.below p a0.lt;have bm:=Z.below p Z.lt;have R:=Q.trans (p.mono Q.size);have ag:Sl 3 RTri j j.heap.size (.slice (some ⟨g,0,none⟩) 8 8) oct:=Zjg (T:=oct) aw (by decide);have a8:Sl 1 RInt j j.heap.size (.slice (some ⟨d.heap.size+1,0,none⟩) 4 4) [1,2,3,4]:=Zk7 (l:=[1,2,3,4]) (cap:=4) av (by decide);have bk:=Zr8 (w:=j) (B:=j.heap.size) (N:=6) zl ag (I64.nat (n:=6) (by decide)) a8 ao (by decide);have c0:d.cell? ⟨f.heap.size,0,none⟩=some (.int .i64 6):=G.cell 0;have c1:d.cell? ⟨f.heap.size,1,none⟩=some (.slice (some ⟨g,0,none⟩) 8 8):=G.cell 1;have dp:f.heap.size<d.heap.size:=by omega
 obtain⟨dc,dh,df,a4,de,c4,a3,a2,d0,ct,c3,cf⟩:=zz12 G a0 Z bn av bl aw bm ag a8 bk sX;obtain⟨ba,cd,ce⟩:=zz3 sQ sK sO;clear G a0 Z bn av bl aw bm ag a8 bk sX sQ sK sO;go_wp2_with fail;rw[<- r];clear r;go_wp2_with fail;refine c3.out.mono ?_;rintro e A ⟨⟨b,c,rfl,cn⟩,D⟩;obtain⟨rfl,rfl⟩:=side_oct cn;have cp:=D.size;have S:=R.trans (D.mono R.size);have I:=p.trans (D.mono (by omega));have u:=a4.out.below D (by omega);have ai:=(cf.out.below zaaq I).keep zaaq (zr _ _) (show d.heap.size<=A.heap.size by omega);have ad:=(ba.out.below zaaq I).keep zaaq (zr _ _) (show d.heap.size<=A.heap.size by omega);have a6:=(cd.out.below zadq I).keep zadq (zr _ _) (show d.heap.size<=A.heap.size by omega);have x0:A.cell? ⟨d.heap.size,0,none⟩=some (.int .i64 10):=u.cell 0;have x1:A.cell? ⟨d.heap.size,1,none⟩=some (.slice A1 8 p1):=u.cell 1;have x2:A.cell? ⟨d.heap.size,2,none⟩=some (.slice A2 10 p2):=u.cell 2;have x3:A.cell? ⟨d.heap.size,3,none⟩=some (.slice A3 0 p3):=u.cell 3;have be:=Ziu (w:=A) (B:=A.heap.size) (N:=10) zl ai ad a6 (I64.nat (n:=10) (by decide)) (by decide) (by decide) (by decide) 0 1 0 (I64.nat (n:=0) (by decide)) (I64.nat (n:=1) (by decide)) (I64.nat (n:=0) (by decide));obtain⟨dj,d5,cx,cr,bw⟩:=zz5 u ai ad a6 be;clear u ai ad a6 be;go_wp2_with fail;refine bw.out.mono ?_;rintro e i ⟨⟨v,c,rfl,bc,_,bh⟩,am⟩;obtain rfl:=join_oct bc;obtain⟨ej,ei,eh,rfl,yT,yP,yK⟩:=join_made_oct (bh rfl i fun _ _ _=>rfl);clear bh bc;obtain⟨A5,p5,rfl,e8⟩:=yT.form;obtain⟨A6,p6,rfl,e9⟩:=yP.form;obtain⟨A7,p7,rfl,ea⟩:=yK.form;rw[show oct.length=8 from rfl]at *;rw[show octP.length=6 from rfl]at *;rw[show([]:List Int).length=0 from rfl]at *;have ee:=am.size;have U:=S.trans (am.mono S.size);obtain⟨a,F⟩:∃a,a=i.alloc (.cells #[.int .i64 6,.slice A5 8 p5,.slice A6 6 p6,.slice A7 0 p7] 67):=⟨_,rfl⟩;have E:Below i.heap.size i a:=by rw[F];exact(zr i.heap.size i).alloc zl _
 have ef:a.heap.size=i.heap.size+1:=by rw[F];simp
 have V:=U.trans (E.mono U.size);have y:Bk a i.heap.size 67 [.int .i64 6,.slice A5 8 p5,.slice A6 6 p6,.slice A7 0 p7]:=by rw[F];exact Bk.new i _ _
 have m:=(D.trans (am.mono cp)).trans (E.mono (by omega));have ak:=p.trans (m.mono (by omega));have H:=a4.out.below m (by omega);have s:=c4.out.below m (by omega);have ax:=a3.out.below m a3.out.lt;have t:=a2.out.below m a2.out.lt;have ae:=(ba.out.below zaaq ak).keep zaaq (zr _ _) (show d.heap.size<=a.heap.size by omega);have a9:=(ce.out.below zadq ak).keep zadq (zr _ _) (show d.heap.size<=a.heap.size by omega);have au:=(yT.below zaaq E).keep zaaq (zr _ _) (show i.heap.size<=a.heap.size by omega);have ar:=(yP.below zaaq E).keep zaaq (zr _ _) (show i.heap.size<=a.heap.size by omega);have aq:=(yK.below zadq E).keep zadq (zr _ _) (show i.heap.size<=a.heap.size by omega);have ah:Sl 3 RTri a a.heap.size (.slice (some ⟨g,0,none⟩) 8 8) oct:=Zjg (T:=oct) ax (by decide);have ac:Sl 3 RTri a a.heap.size (.slice (some ⟨z,0,none⟩) 6 6) octP:=sl_points (P:=octP) t (by decide);have ap:=Zr7 (w:=a.drew) (B:=a.heap.size) (Na:=6) (Nb:=6) zl (au.drew zaaq) (ah.drew zaaq) (ar.drew zaaq) (ac.drew zaaq) (aq.drew zadq) (Sl.nil a.drew a.heap.size) (by decide) (by decide) (by decide);rw[zY (show((6:Int)=6/\oct=oct)/\octP=octP/\([]:List Int)=[]from⟨⟨rfl,rfl⟩,rfl,rfl⟩)]at ap;obtain⟨bo,oo,rfl,e2,a1⟩:=a9.int_at (k:=6) (by decide);obtain⟨bq,oq,rfl,e3,b1,b2,b3⟩:=ae.tri_at (k:=6) (by decide);have du:a.drew.cell? ⟨bo,oo+6,none⟩=some (.int .i64 1):=a1;have dv:a.drew.cell? ⟨bq,oq+18,none⟩=some (.int .i64 1):=b1;have dw:a.drew.cell? ⟨bq,oq+19,none⟩=some (.int .i64 0):=b2;have dx:a.drew.cell? ⟨bq,oq+20,none⟩=some (.int .i64 0):=b3;have el:a.drew.cell? ⟨d.heap.size,0,none⟩=some (.int .i64 10):=H.cell 0;have em:a.drew.cell? ⟨d.heap.size,1,none⟩=some (.slice A1 8 p1):=H.cell 1;have en:a.drew.cell? ⟨d.heap.size,2,none⟩=some (.slice (some ⟨bq,oq,none⟩) 10 p2):=H.cell 2;have dy:a.drew.cell? ⟨f.heap.size,0,none⟩=some (.int .i64 6):=s.cell 0;have dz:a.drew.cell? ⟨f.heap.size,1,none⟩=some (.slice (some ⟨g,0,none⟩) 8 8):=s.cell 1;have e0:a.drew.cell? ⟨f.heap.size,2,none⟩=some (.slice (some ⟨z,0,none⟩) 6 6):=s.cell 2;have e1:a.drew.cell? ⟨f.heap.size,3,none⟩=some (.slice none 0 0):=s.cell 3;have eo:a.drew.cell? ⟨i.heap.size,0,none⟩=some (.int .i64 6):=y.cell 0;have ep:a.drew.cell? ⟨i.heap.size,1,none⟩=some (.slice A5 8 p5):=y.cell 1;have er:a.drew.cell? ⟨i.heap.size,2,none⟩=some (.slice A6 6 p6):=y.cell 2;have es:a.drew.cell? ⟨i.heap.size,3,none⟩=some (.slice A7 0 p7):=y.cell 3;have d1:a.drew.cell? ⟨z,3,none⟩=some (.int .i64 1):=t.cell 3;have d2:a.drew.cell? ⟨z,4,none⟩=some (.int .i64 0):=t.cell 4;have d3:a.drew.cell? ⟨z,5,none⟩=some (.int .i64 0):=t.cell 5;clear a1 b1 b2 b3;have hq:∀W,Sem.run Tryz.prog (Op.equalIn 10000 74 (.agg #[.int .i64 1,.int .i64 0,.int .i64 0]) (.agg #[.int .i64 1,.int .i64 0,.int .i64 0])) W=.ok true W:=fun W=>(pt_run45 1 0 0 1 0 0 W).trans (by rw[zY rfl])
 obtain⟨dl,dk,dd,di,dg,cy,cu,db,da,d9,d4,cw⟩:=zz12 y H s ax t ae a9 au ar aq ah ac;obtain⟨c2,dt,ds,dr⟩:=zz4 ap yT yP yK;clear y H s ax t ae a9 au ar aq ah ac ap yT yP yK;go_wp2_with fail;rw[<- F];clear F;refine Canon.wp_region_text mixed (by kernel_rfl) ?_;go_wp2_with fail;refine c2.out.mono ?_;rintro e w8 ⟨rfl,ck⟩;have b0:=V.drew.trans (ck.mono V.size);go_wp2_with fail;refine Canon.chk (by rfl) ?_;go_wp2_with fail;go_ret;exact⟨rfl,b0⟩
