/- Walks: genus' at and done. Walks: genus' Of. Walks: genus. -/
import Derived.Test.YtpbdcppaiafbgaaGreatNA
import Derived.Test.YtpbdcppaiafbgaaGreatOJ
set_option maxRecDepth 100000
set_option maxHeartbeats 8000000
namespace Go.Proofs.YtpbdcppaiafbgaaGreat
open Go Go.RowKit Go.Words Go.Mesh
theorem Zum{w:World}{B:Nat}{N:Int}{T:List T3}{gt:Addr}(ht:Tab w B (.pointer (some gt)) N T)(hs:Surf N T){ox:List Int}{C:Nat}(hpt:Pt T ox C T.length){go g3 g1:Nat}
  (hko:Bk w go 3 (ivals ox)) (hk3:Bk w g3 28 [.slice (some ⟨go,0,none⟩) T.length T.length]) (hk1:Bk w g1 46 [.pointer (some gt)]) (v:Nat) (hv:(v:Int)<N) :
  Calls Tryz.prog 132 #[.int .i64 (v:Int),.pointer (some ⟨g3,0,none⟩),.pointer (some ⟨g1,0,none⟩)] w fun e w'=>e=.returned (.int .i64 (shN ox (cnr T v/3):Int))/\Below w.heap.size w w':=by
 obtain⟨d,A,l⟩:=cnr_at hs hv;have E:=hs.tmax;obtain⟨m,c,_⟩:=Zlg hpt (t:=cnr T v/3) (by omega);have g:Zpx T N (v:Int)=(cnr T v:Int):=by unfold Zpx;rw[if_pos ⟨by omega,hv⟩,d];rfl
 have b:=Zin (w:=w.drew) (ht.below (zr _ _).drew ht.le) hs (v:Int);rw[g]at b;obtain⟨a,f⟩:∃a,cnr T v/3=a:=⟨_,rfl⟩;rw[f]at c ⊢;clear g d l m;generalize cnr T v=j at *;generalize shN ox a=s at *;have n:(j:Int)/3=(a:Int):=by omega
 have D:(j:Int).tdiv 3=(a:Int):=by rw[Int.tdiv_eq_ediv_of_nonneg (by omega)];exact n
 have x:a<T.length:=by omega
 have u:w.drew.cell? ⟨g3,0,none⟩=some (.slice (some ⟨go,0,none⟩) T.length T.length):=hk3.cell 0;have F:w.drew.cell? ⟨g1,0,none⟩=some (.pointer (some gt)):=hk1.cell 0;have G:w.drew.cell? ⟨go,a,none⟩=some (.int .i64 (s:Int)):=(hko.cell a).trans (Za3 c);have k:=(zr w.heap.size w).drew;clear c f;obtain⟨z,y,r,q,p,o,i⟩:=zz7 ht hs hpt hko hk3 hk1 b;clear ht hs hpt hko hk3 hk1 b;go_enter Tryz.func132,Tryz.ntmps132;go_wp2_with fail;refine Canon.wp_region_tree [0] (fun b9=>b9=g3) (.seg [0,1,2] (.alt 3 (.seg [4,5,6,7] .fin) .no)) mixed (by kernel_rfl) ?_;refine Canon.tr_seg ?_;simp only[zm,zg];go_wp2_with fail;refine Canon.tr_to (Canon.tr_one ?_);simp only[zg];go_wp2_with fail;refine i.out.mono ?_;rintro e H ⟨rfl,rfl⟩;go_wp2_with fail;refine Canon.tr_end (fun b9 h9=>rfl) (Canon.tr_seg ?_);simp only[zm,zg];go_wp2_with fail;refine Canon.tr_to (Canon.tr_fin (by rfl) (zF ⟨.inl ⟨_,rfl,rfl,by rw[u];rfl⟩,fun _ h=>by cases h⟩) ?_);go_wp2_with fail;go_ret;exact⟨rfl,k⟩
def GenSt(w wx:World)(g:Nat)(cs:List Value):Prop:=Bk wx g 93 cs/\wx.heap.size=w.heap.size/\(wx.os=w.os/\wx.tape=w.tape/\wx.output=w.output)/\∀b,b≠g->wx.heap[b]? = w.heap[b]?
theorem GenSt.put{w wx:World}{g i:Nat}{cs:List Value}(h:GenSt w wx g cs)(u:Value):GenSt w (wx.setCell ⟨g,i,none⟩ u) g (cs.set i u):=by
 have a:=(zr 0 wx).setCell (p:=⟨g,i,none⟩) (Nat.zero_le _) u;exact⟨h.1.set i u,by rw[World.size_setCell];exact h.2.1,⟨a.os.trans h.2.2.1.1,a.tape.trans h.2.2.1.2.1,a.output.trans h.2.2.1.2.2⟩,fun b a=>(Below.heap_setCell wx ⟨g,i,none⟩ u b a).trans (h.2.2.2 b a)⟩
theorem GenSt.below{w wx:World}{g B:Nat}{cs:List Value}(h:GenSt w wx g cs)(hg:B<=g):Below B w wx :=
 ⟨h.2.2.1.1,h.2.2.1.2.1,h.2.2.1.2.2,Nat.le_of_eq h.2.1.symm,fun k hk=>h.2.2.2 k (by omega)⟩
theorem Zz6{w:World}{g k:Nat}{cs:List Value}(hk:Bk w g 93 cs){V F b tw E:Nat}{y1 y4 y5 U G:Int}(h0:cs[k]? = some (.int .i64 (V:Int)))(j:cs[k+1]? = some (.int .i64 y1))(q:cs[k+2]? = some (.int .i64 (F:Int)))(h3:cs[k+3]? = some (.int .i64 (b:Int)))(h4:cs[k+4]? = some (.int .i64 y4))(h5:cs[k+5]? = some (.int .i64 y5))
  (hV:V<=1000000) (hF:F<=1000000) (hb:b<=1000000) (htw:tw<=1000000) (hE:tw/2=E) (hU:(V:Int)-(E:Int)+(F:Int)=U) (hG:((2:Int)-(b:Int)-U).tdiv 2=G) :
  Calls Tryz.prog 133 #[.pointer (some ⟨g,k,none⟩),.int .i64 (tw:Int)] w fun e w'=>(∃v,e=.returned v)/\GenSt w w' g (((cs.set (k+1) (.int .i64 (E:Int))).set (k+4) (.int .i64 U)).set (k+5) (.int .i64 G)):=by
 have O:(tw:Int)/2=(E:Int):=by omega
 have e2:(tw:Int).tdiv 2=(E:Int):=by rw[Int.tdiv_eq_ediv_of_nonneg (by omega)];exact O
 have c1:w.cell? ⟨g,k+1,none⟩=some (.int .i64 y1):=(hk.cell _).trans j;have cf:=hk.frozen;have x:GenSt w w g cs:=⟨hk,rfl,⟨rfl,rfl,rfl⟩,fun _ _=>rfl⟩;have c:=x.put (i:=k+1) (.int .i64 (E:Int));have r:=c.put (i:=k+4) (.int .i64 U);obtain⟨a,o⟩:∃a,w.setCell ⟨g,k+1,none⟩ (.int .i64 (E:Int))=a:=⟨_,rfl⟩;rw[o]at c r;have l:=r;have u:k+1<cs.length:=(zS.1 j).1;have C:a.cell? ⟨g,k,none⟩=some (.int .i64 (V:Int)):=(c.1.cell _).trans (by rw[List.getElem?_set,if_neg (by omega)];exact h0);have D:a.cell? ⟨g,k+1,none⟩=some (.int .i64 (E:Int)):=(c.1.cell _).trans (by rw[List.getElem?_set,if_pos rfl,if_pos u]);have H:a.cell? ⟨g,k+2,none⟩=some (.int .i64 (F:Int)):=(c.1.cell _).trans (by rw[List.getElem?_set,if_neg (by omega)];exact q);have L:a.cell? ⟨g,k+4,none⟩=some (.int .i64 y4):=(c.1.cell _).trans (by rw[List.getElem?_set,if_neg (by omega)];exact h4);have M:=c.1.frozen;have Z:a.drew.cell? ⟨g,k,none⟩=some (.int .i64 (V:Int)):=C;have a3:a.drew.cell? ⟨g,k+1,none⟩=some (.int .i64 (E:Int)):=D;have a5:a.drew.cell? ⟨g,k+2,none⟩=some (.int .i64 (F:Int)):=H;have a6:a.drew.cell? ⟨g,k+4,none⟩=some (.int .i64 y4):=L;have a7:∀i,a.drew.frozen? ⟨g,i,none⟩=false:=M;have ac:E<=1000000:=by omega
 obtain⟨S,P,Q,R,z,A,B,T,W,X,p⟩:=zz11 hk h0 j q h3 h4 h5 x c r l;clear hk h0 j q h3 h4 h5 x c r l;go_enter Tryz.func133,Tryz.ntmps133;go_upto_region 1 with fail
 try rw[o]
 clear o;go_cut [] (fun wx=>GenSt w wx g ((cs.set (k+1) (.int .i64 (E:Int))).set (k+4) (.int .i64 U)))
 case first =>
  refine Canon.wp_region_last 17 [4,8,13] (fun b9=>b9=g) (.seg [0,1,5,10] (.alt 2 (.seg [3,4] (.alt 6 (.seg [7,8,9] (.alt 11 (.seg [12,13,14] (.alt 15 (.seg [16] (.alt 17 .fin .no)) .no)) .no)) (.alt 11 (.seg [12,13] (.alt 6 (.seg [7,8,9,14] (.alt 15 (.seg [16] (.alt 17 .fin .no)) .no)) .no)) .no))) (.alt 6 (.seg [7,8] (.alt 2 (.seg [3,4,9] (.alt 11 (.seg [12,13,14] (.alt 15 (.seg [16] (.alt 17 .fin .no)) .no)) .no)) (.alt 11 (.seg [12,13] (.alt 2 (.seg [3,4,9,14] (.alt 15 (.seg [16] (.alt 17 .fin .no)) .no)) .no)) .no))) (.alt 11 (.seg [12,13] (.alt 2 (.seg [3,4] (.alt 6 (.seg [7,8,9,14] (.alt 15 (.seg [16] (.alt 17 .fin .no)) .no)) .no)) (.alt 6 (.seg [7,8] (.alt 2 (.seg [3,4,9,14] (.alt 15 (.seg [16] (.alt 17 .fin .no)) .no)) .no)) .no))) .no)))) mixed (by kernel_rfl) ?_;refine Canon.trm_seg ?_;simp only[zm,zg];go_wp2_with fail;refine Canon.trm_to ?_;refine Canon.trm_alt ?zd1 ?zd2
  case' zd1 =>
   simp only[zg];go_wp2_with fail;refine Canon.trm_end (fun b9 h9=>rfl) ?_;refine Canon.trm_seg ?_;simp only[zm,zg];go_wp2_with fail;refine Canon.trm_to ?_;refine Canon.trm_alt ?zd3 ?zd4
   case' zd3 =>
    simp only[zg]
   case' zd4 =>
    refine Canon.trm_one ?_;simp only[zg]
  case' zd2 =>
   refine Canon.trm_alt ?zd5 ?zd6
   case' zd5 =>
    simp only[zg];go_wp2_with fail;refine Canon.trm_end (fun b9 h9=>rfl) ?_;refine Canon.trm_seg ?_;simp only[zm,zg];go_wp2_with fail;refine Canon.trm_to ?_;refine Canon.trm_alt ?zd7 ?zd8
    case' zd7 =>
     simp only[zg]
    case' zd8 =>
     refine Canon.trm_one ?_;simp only[zg]
   case' zd6 =>
    refine Canon.trm_one ?_;simp only[zg];go_wp2_with fail;refine Canon.trm_end (fun b9 h9=>rfl) ?_;refine Canon.trm_seg ?_;simp only[zm,zg];go_wp2_with fail;refine Canon.trm_to ?_;refine Canon.trm_alt ?zd9 ?zd10
    case' zd9 =>
     simp only[zg]
    case' zd10 =>
     refine Canon.trm_one ?_;simp only[zg]
  all_goals
   go_wp2_with fail;refine Canon.trm_end (fun b9 h9=>rfl) ?_;refine Canon.trm_seg ?_;simp only[zm,zg];go_wp2_with fail;refine Canon.trm_to ?_;refine Canon.trm_one ?_;simp only[zg];go_wp2_with fail;refine Canon.trm_end (fun b9 h9=>rfl) ?_;refine Canon.trm_seg ?_;simp only[zm,zg];go_wp2_with fail;refine Canon.trm_to ?_;refine Canon.trm_one ?_;simp only[zg];go_wp2_with fail;refine Canon.trm_end (fun b9 h9=>rfl) ?_;refine Canon.trm_seg ?_;simp only[zm,zg];go_wp2_with fail;refine Canon.trm_to ?_;refine Canon.trm_one ?_;simp only[zg];go_wp2_with fail;refine Canon.trm_last ?_;refine Canon.trm_fin (by rfl) (zF ⟨.inl ⟨_,rfl,rfl,by rw[zw,C];rfl⟩,zF ⟨.inl ⟨_,rfl,rfl,by rw[zw,D];rfl⟩,zF ⟨.inl ⟨_,rfl,rfl,by rw[zw,H];rfl⟩,fun _ h=>by cases h⟩⟩⟩) ?_;go_wp2_with fail;go_meet;exact p.out
 case rest =>
  obtain⟨d,J⟩:∃d,d=wc:=⟨_,rfl⟩;subst J;have y:=hcut.put (i:=k+5) (.int .i64 G);have m:=y;have s:d.cell? ⟨g,k+3,none⟩=some (.int .i64 (b:Int)):=(hcut.1.cell _).trans (by rw[List.getElem?_set,if_neg (by omega),List.getElem?_set,if_neg (by omega)];exact z.out);have I:k+4<cs.length:=(zS.1 A.out).1;have t:d.cell? ⟨g,k+4,none⟩=some (.int .i64 U):=(hcut.1.cell _).trans (by rw[List.getElem?_set,if_pos rfl,if_pos (by rw[List.length_set];exact I)]);have N:d.cell? ⟨g,k+5,none⟩=some (.int .i64 y5):=(hcut.1.cell _).trans (by rw[List.getElem?_set,if_neg (by omega),List.getElem?_set,if_neg (by omega)];exact B.out);have a8:d.drew.cell? ⟨g,k+3,none⟩=some (.int .i64 (b:Int)):=s;have a9:d.drew.cell? ⟨g,k+4,none⟩=some (.int .i64 U):=t;have aa:d.drew.cell? ⟨g,k+5,none⟩=some (.int .i64 y5):=N;have bf:∀i,d.drew.frozen? ⟨g,i,none⟩=false:=hcut.1.frozen;have ae:-1000000<=U/\U<=2000000:=by omega
  have ad:-2000000<=G/\G<=2000000:=by
   have j:=Int.tmod_def ((2:Int)-(b:Int)-U) 2;have q:=Zj7 ((2:Int)-(b:Int)-U) (n:=2) (by omega);rw[hG]at j;omega
  clear hU;obtain⟨K,Y,f⟩:=zz3 hcut y m;clear hcut y m;go_wp2_with fail;refine Canon.wp_region_last 14 [4,9] (fun b9=>b9=g) (.seg [0,1,6] (.alt 2 (.seg [3,4,5] (.alt 7 (.seg [8,9,10,11] (.alt 12 (.seg [13] (.alt 14 .fin .no)) .no)) .no)) (.alt 7 (.seg [8,9] (.alt 2 (.seg [3,4,5,10,11] (.alt 12 (.seg [13] (.alt 14 .fin .no)) .no)) .no)) .no))) mixed (by kernel_rfl) ?_;refine Canon.trm_seg ?_;simp only[zm,zg];go_wp2_with fail;refine Canon.trm_to ?_;refine Canon.trm_alt ?_ ?_
  ·simp only[zg];go_wp2_with fail;refine Canon.trm_end (fun b9 h9=>rfl) ?_;refine Canon.trm_seg ?_;simp only[zm,zg];go_wp2_with fail;refine Canon.trm_to ?_;refine Canon.trm_one ?_;simp only[zg];go_wp2_with fail;refine Canon.trm_end (fun b9 h9=>rfl) ?_;refine Canon.trm_seg ?_;simp only[zm,zg];go_wp2_with fail;refine Canon.trm_to ?_;refine Canon.trm_one ?_;simp only[zg];go_wp2_with fail;refine Canon.trm_end (fun b9 h9=>rfl) ?_;refine Canon.trm_seg ?_;simp only[zm,zg];go_wp2_with fail;refine Canon.trm_to ?_;refine Canon.trm_one ?_;simp only[zg];go_wp2_with fail;refine Canon.trm_last ?_;refine Canon.trm_fin (by rfl) (zF ⟨.inl ⟨_,rfl,rfl,by rw[zw,s];rfl⟩,zF ⟨.inl ⟨_,rfl,rfl,by rw[zw,t];rfl⟩,fun _ h=>by cases h⟩⟩) ?_;go_wp2_with fail;go_end0;exact⟨⟨_,rfl⟩,f.out⟩
  ·refine Canon.trm_one ?_;simp only[zg];go_wp2_with fail;refine Canon.trm_end (fun b9 h9=>rfl) ?_;refine Canon.trm_seg ?_;simp only[zm,zg];go_wp2_with fail;refine Canon.trm_to ?_;refine Canon.trm_one ?_;simp only[zg];go_wp2_with fail;refine Canon.trm_end (fun b9 h9=>rfl) ?_;refine Canon.trm_seg ?_;simp only[zm,zg];go_wp2_with fail;refine Canon.trm_to ?_;refine Canon.trm_one ?_;simp only[zg];go_wp2_with fail;refine Canon.trm_end (fun b9 h9=>rfl) ?_;refine Canon.trm_seg ?_;simp only[zm,zg];go_wp2_with fail;refine Canon.trm_to ?_;refine Canon.trm_one ?_;simp only[zg];go_wp2_with fail;refine Canon.trm_last ?_;refine Canon.trm_fin (by rfl) (zF ⟨.inl ⟨_,rfl,rfl,by rw[zw,s];rfl⟩,zF ⟨.inl ⟨_,rfl,rfl,by rw[zw,t];rfl⟩,fun _ h=>by cases h⟩⟩) ?_;go_wp2_with fail;go_end0;exact⟨⟨_,rfl⟩,f.out⟩
end Go.Proofs.YtpbdcppaiafbgaaGreat
namespace Go.Words
open Go Go.RowKit Go.Mesh
def numC(C:Nat)(g:Nat->Nat->Int):List Value:=(List.range (C*6)).map fun j=>.int .i64 (g (j/6) (j%6))
def upd(g:Nat->Nat->Int)(s f:Nat)(u:Int):Nat->Nat->Int:=fun a b=>if a=s/\b=f then u else g a b
theorem Zlb(g:Nat->Nat->Int)(s f:Nat)(u:Int):upd g s f u s f=u:=by unfold upd;rw[if_pos ⟨rfl,rfl⟩]
theorem zaoq(g:Nat->Nat->Int){s f a b:Nat}(u:Int)(h:a≠s\/b≠f):upd g s f u a b=g a b:=by unfold upd;rw[if_neg (fun h9=>h.elim (fun k=>k h9.1) fun k=>k h9.2)]
theorem Zs4(C:Nat)(g:Nat->Nat->Int):(numC C g).length=C*6:=by unfold numC;simp
theorem Zs3{C:Nat}{g:Nat->Nat->Int}{j:Nat}(hj:j<C*6):(numC C g)[j]? = some (.int .i64 (g (j/6) (j%6))):=by
 unfold numC;rw[zJ,List.getElem?_range hj];rfl
theorem Zfh{C:Nat}{g:Nat->Nat->Int}{s f:Nat}(hs:s<C)(hf:f<6):(numC C g)[s*6+f]? = some (.int .i64 (g s f)):=by
 rw[Zs3 (by omega),show(s*6+f)/6=s by omega,show(s*6+f)%6=f by omega]
theorem Znc{C:Nat}{g:Nat->Nat->Int}{s f:Nat}(hs:s<C)(hf:f<6)(u:Int):(numC C g).set (s*6+f) (.int .i64 u)=numC C (upd g s f u):=by
 refine List.ext_getElem? fun j=>?_
 rw[List.getElem?_set];by_cases h:s*6+f=j
 ·rw[if_pos h,if_pos (by rw[Zs4];omega),Zs3 (by omega),show j/6=s by omega,show j%6=f by omega,Zlb]
 ·rw[if_neg h];by_cases a:j<C*6
  ·rw[Zs3 a,Zs3 a,zaoq _ _ (by omega)]
  ·rw[List.getElem?_eq_none (by rw[Zs4];omega),List.getElem?_eq_none (by rw[Zs4];omega)]
theorem made6(n:Nat):madeCells #[Value.int .i64 0,.int .i64 0,.int .i64 0,.int .i64 0,.int .i64 0,.int .i64 0] n=(List.replicate n (Value.int .i64 0)).toArray:=by
 refine Array.ext (by simp[madeCells]) fun i h1 h2=>?_
 simp only[madeCells,Array.getElem_map,Array.getElem_range,List.getElem_toArray,List.getElem_replicate];show(#[Value.int .i64 0,.int .i64 0,.int .i64 0,.int .i64 0,.int .i64 0,.int .i64 0])[i%6]! = _;rcases(by omega:i%6=0\/i%6=1\/i%6=2\/i%6=3\/i%6=4\/i%6=5)with h|h|h|h|h|h<;>rw[h]<;>rfl
theorem numC_zero(n:Nat):numC n (fun _ _=>0)=List.replicate (n*6) (Value.int .i64 0):=List.eq_replicate_iff.2 ⟨Zs4 _ _,fun u hu=>by
 unfold numC at hu;obtain⟨_,_,rfl⟩:=zB.1 hu;rfl⟩
end Go.Words
namespace Go.Proofs.YtpbdcppaiafbgaaGreat
open Go Go.RowKit Go.Words Go.Mesh
theorem ivals_put(L:List Int)(s:Nat)(u:Int):(ivals L).set s (.int .i64 u)=ivals (L.set s u):=by unfold ivals;rw[List.map_set]
theorem infoNum:(Tryz.prog.info? 93).map (fun i=>(i.zero,i.size,i.bytes))=some (some (.agg #[.int .i64 0,.int .i64 0,.int .i64 0,.int .i64 0,.int .i64 0,.int .i64 0]),6,48):=by kernel_rfl
theorem run_make_nums(n:Nat)(hn:n<=1000000)(w:World) :
  (Instr.makeSlice 134 (.int .i64 (n:Int)) (.int .i64 (n:Int))).run Tryz.prog w=.ok (.slice (some ⟨w.heap.size,0,none⟩) n n) (w.alloc (.cells (numC n fun _ _=>0).toArray 93)):=by
 obtain⟨e,hi,b,c,d⟩:=info_parts infoNum;have h:(e.bytes:Int)*(n:Int)<=281474976710656:=by rw[d];omega
 have a:=run_make (P:=Tryz.prog) w 134 93 e _ Tryz.underlying134 hi b .i64 .i64 n n (by omega) (by omega) h (by omega);simp only[zC]at a;rw[a,c,numC_zero];have:(Value.agg #[.int .i64 0,.int .i64 0,.int .i64 0,.int .i64 0,.int .i64 0,.int .i64 0]).cells=#[Value.int .i64 0,.int .i64 0,.int .i64 0,.int .i64 0,.int .i64 0,.int .i64 0]:=rfl;rw[this,made6]
theorem cC_succ(ox:List Int)(s c:Nat):cC ox s (c+1)=cC ox s c+if(shN ox (c/3)==s)=true then 1 else 0:=Zkh _ _
theorem cO_succ(T:List T3)(ox:List Int)(s c:Nat):cO T ox s (c+1)=cO T ox s c+if(shN ox (c/3)==s&&(opp T c).isNone)=true then 1 else 0:=Zkh _ _
theorem cV_succ(T:List T3)(ox:List Int)(s v:Nat):cV T ox s (v+1)=cV T ox s v+if(shN ox (cnr T v/3)==s)=true then 1 else 0:=Zkh _ _
theorem cF_succ(ox:List Int)(s t:Nat):cF ox s (t+1)=cF ox s t+if(shN ox t==s)=true then 1 else 0:=Zkh _ _
theorem cB_take(T:List T3)(ox:List Int)(L:List (List Nat))(s k:Nat)(hk:k<L.length):cB T ox (L.take (k+1)) s=cB T ox (L.take k) s+if(shN ox (cnr T (L[k].headD 0)/3)==s)=true then 1 else 0:=by
 unfold cB;rw[zT hk,List.countP_append,List.countP_cons,List.countP_nil,Nat.zero_add]
theorem rows_in{w:World}{base:Nat}{A:Option Addr}{n cap:Nat}{Ls:List (List Nat)}(h:OwnRows w base (.slice A n cap) Ls)(hn:Ls.length=n){i:Nat}(hi:i<Ls.length)(hpos:0<Ls[i].length) :
  ∃gr a capl,A=some ⟨gr,0,none⟩/\w.cell? ⟨gr,i,none⟩=some (.slice (some ⟨a,0,none⟩) Ls[i].length capl)/\base<=gr/\gr<w.heap.size/\base<=a/\a<w.heap.size/\w.cell? ⟨a,0,none⟩=some (.int .i64 (Ls[i].headD 0:Int)):=by
 obtain⟨g,v,rfl,k,f,j,d⟩:=h.at_ hn hi;obtain⟨A,c,rfl,_⟩:=zaeq d;obtain⟨a,rfl⟩:=zbeq d hpos;have b:=zbfq d (Zk1 hpos);have e:∀(l:List Nat) (h:0<l.length),l.headD 0=l[0]:=fun l h=>by
  cases l with
  | nil=>simp at h
  | cons x l=>rfl
 exact⟨g,a,c,rfl,k,f,j,b.2.1,b.2.2,by rw[e _ hpos];exact b.1⟩
def twC(T:List T3)(ox:List Int)(s c:Nat):Nat:=cC ox s c+cO T ox s c
theorem twC_succ(T:List T3)(ox:List Int)(s c:Nat):twC T ox s (c+1)=twC T ox s c+if(shN ox (c/3)==s)=true then(if(opp T c).isNone=true then 2 else 1)else 0:=by
 unfold twC;rw[cC_succ,cO_succ];cases (shN ox (c/3)==s)<;>cases (opp T c).isNone<;>simp<;>omega
theorem twC_le(T:List T3)(ox:List Int)(s c:Nat):twC T ox s c<=2*c:=by
 unfold twC cC cO;have a:=Ze4 (fun c=>shN ox (c/3)==s) c;have b:=Ze4 (fun c=>shN ox (c/3)==s&&(opp T c).isNone) c;omega
theorem genof_calls{w:World}{B:Nat}{tv:Value}{N:Int}{T:List T3}(ht:Tab w B tv N T)(hs:Surf N T) :
  Calls Tryz.prog 96 #[tv] w fun e w'=>(∃(g:Nat) (a:List Int) (C:Nat) (v:Nat->Nat->Int),e=.returned (.slice (some ⟨g,0,none⟩) C C)/\w.heap.size<=g/\Pt T a C T.length/\Bk w' g 93 (numC C v) /\
   ∀s,s<C->v s 0=(cV T a s N.toNat:Int)/\v s 1=(gE T a s:Int)/\v s 2=(cF a s T.length:Int)/\v s 3=(cB T a (lps T N N.toNat) s:Int)/\v s 4=gU N T a s/\v s 5=gG N T a s)/\Below w.heap.size w w':=by
 obtain⟨n,rfl⟩:∃n:Nat,N=n:=⟨N.toNat,by have:=hs.n0;omega⟩;rw[zC];obtain⟨gt,rfl⟩:∃gt,tv=.pointer (some gt):=by
  obtain⟨g,_,_,_,_,_,rfl,_⟩:=ht;exact⟨_,rfl⟩
 have iy:=hs.nmax;have iz:=hs.tmax;have hB:=ht.le;have d8:=(zr w.heap.size w).alloc zl (.cells #[.pointer (some gt)] 46);have df:=Bk.new w 46 [.pointer (some gt)];have dq:=ht.below d8 hB;have j2:w.heap.size+1<=(w.alloc (.cells #[.pointer (some gt)] 46)).heap.size:=by simp
 generalize gv:w.alloc (.cells #[.pointer (some gt)] 46)=w0 at *;have c0:w0.cell? ⟨w.heap.size,0,none⟩=some (.pointer (some gt)):=df.cell 0;have ez:=Zpi dq hs;obtain⟨ig,fv,Q,fi,fs⟩:=zz5 ht dq hs df ez;clear ht dq hs df ez;go_enter Tryz.func96,Tryz.ntmps96;go_wp2_with fail;clear gv;refine fs.out.mono ?_;rintro e w1 ⟨⟨go,a,C,rfl,ci,dl,iw⟩,d9⟩;have gz:=d9.size;have h7:=d8.trans (d9.mono (by omega));obtain⟨w2,cm⟩:∃w2,w1.alloc (.cells #[.slice (some ⟨go,0,none⟩) T.length T.length] 28)=w2:=⟨_,rfl⟩;have da:Below w1.heap.size w1 w2:=by rw[<- cm];exact(zr w1.heap.size w1).alloc zl _
 have dh:Bk w2 w1.heap.size 28 [.slice (some ⟨go,0,none⟩) T.length T.length]:=by rw[<- cm];exact Bk.new w1 _ _
 have j3:w2.heap.size=w1.heap.size+1:=by rw[<- cm];simp
 have c6:=d9.trans (da.mono gz);have dg:=fi.out.below c6 (by omega);have di:=ci.below da ci.lt;have dr:=fv.out.below c6 (by omega);have ed:=d8.trans (c6.mono (by omega));have d0:w2.cell? ⟨w.heap.size,0,none⟩=some (.pointer (some gt)):=dg.cell 0;have d3:w2.cell? ⟨w1.heap.size,0,none⟩=some (.slice (some ⟨go,0,none⟩) T.length T.length):=dh.cell 0;have ev:=Zdv dr Q.out;have hC:=dl.np;obtain⟨fo,ce,ai,fk,fj,c2,fe⟩:=zz7 ci di dl dh dg dr ev;clear ci di dl dh dg dr ev;go_wp2_with fail;clear cm;refine fe.out.mono ?_;rintro e h ⟨⟨ia,C2,rfl,dm⟩,db⟩;obtain rfl:=Pt.one Q.out ai.out dm;have h0:=db.size;have ch:=ed.trans (db.mono (by omega));have gp:=fun W=>run_make_nums C (by omega) W
 have gn:=Zaq (P:=Tryz.prog) 28 Tryz.underlying28 Zap rfl C (by omega) (by omega);clear dm;obtain⟨w4,b9⟩:∃w4,(h.alloc (.cells (numC C fun _ _=>0).toArray 93)).alloc (.cells (Array.replicate C (.int .i64 0)) 3)=w4:=⟨_,rfl⟩;have dc:Below h.heap.size h w4:=by rw[<- b9];exact((zr h.heap.size h).alloc zl _).alloc (by simp) _
 have ex:Bk w4 h.heap.size 93 (numC C fun _ _=>0):=by rw[<- b9];exact(Bk.new h _ _).alloc _
 have ey:Bk w4 (h.heap.size+1) 3 (ivals (List.replicate C (0:Int))):=by
  rw[<- b9];have h9:=Bk.new' (n:=h.heap.size+1) (w:=h.alloc (.cells (numC C fun _ _=>0).toArray 93)) 3 (ivals (List.replicate C (0:Int))) (by simp)
  rwa [show(ivals (List.replicate C (0:Int))).toArray=Array.replicate C (.int .i64 0) by unfold ivals;rw[List.map_replicate,List.toArray_replicate]]at h9
 have j4:w4.heap.size=h.heap.size+2:=by rw[<- b9];simp
 have ee:=ch.trans (dc.mono ch.size);have bj:=db.trans (dc.mono h0);have c9:=fj.out.below bj (by omega);have ca:=fk.out.below bj (by omega);have dj:=ce.out.below bj ce.out.lt;have ds:=c2.out.below bj c2.out.le;have e0:w4.cell? ⟨w.heap.size,0,none⟩=some (.pointer (some gt)):=c9.cell 0;have e3:w4.cell? ⟨w1.heap.size,0,none⟩=some (.slice (some ⟨go,0,none⟩) T.length T.length):=ca.cell 0;have i3:go<w1.heap.size:=fo.out.lt;have ip:=c2.out.le;have f1:=fun(i:Nat) (hi:i<T.length)=>Zlg ai.out hi
 have f0:=fun wz (hz:Below h.heap.size w4 wz) (c:Nat) (hc:c<3*T.length)=>(show Calls Tryz.prog 27 #[.pointer (some gt),.int .i64 (c:Int)] wz fun e w'=>e=.returned (.int .i64 (oi (opp T c)))/\Below wz.heap.size wz w' by
  have h9:=Zfx (ds.below (hz.mono (show B<=h.heap.size by omega)) zl) Q.out (c:Int);rw[Zk9 hc]at h9;exact h9)
 have g4:=zr h.heap.size w4;obtain⟨fl,fm,cc,cd,bd,bg,c1,ft⟩:=zz8 ex ey c9 ca dj ds f1 f0;clear ex ey c9 ca dj ds f1 f0;go_wp2_with fail
 try rw[b9]
 clear b9 gp gn;go_loopw[25] (fun iv wr=>∃(i:Nat) (v:Nat->Nat->Int) (L:List Int),i<=T.length/\iv=.int .i64 (i:Int)/\Bk wr h.heap.size 93 (numC C v)/\Bk wr (h.heap.size+1) 3 (ivals L)/\L.length=C /\
  (∀s,s<C->v s 0=0/\v s 2=(cF a s i:Int)/\v s 3=0)/\(∀s,s<C->L[s]? = some ((twC T a s (3*i):Nat):Int))/\Below h.heap.size w4 wr) (fun iv _=>T.length-(intOf iv).toNat)
 case atStart=>exact⟨0,_,_,by omega,rfl,fl.out,fm.out,by simp,fun s _=>⟨rfl,rfl,rfl⟩,fun s hs=>by rw[List.getElem?_replicate,if_pos hs];rfl,g4⟩
 case round =>
  obtain⟨i,v,L,hi,rfl,hN,bs,gd,hv,hL,am⟩:=hrel;obtain⟨wq,gw⟩:∃wq,wq=wr:=⟨_,rfl⟩;subst gw;have j7:=am.size;by_cases gj:i<T.length
  ·obtain⟨J,ck,_⟩:=c1.out i gj;obtain⟨s,cj⟩:∃s,shN a i=s:=⟨_,rfl⟩;rw[cj]at J ck;have co:wq.cell? ⟨go,i,none⟩=some (.int .i64 (s:Int)):=(am.cell (p:=⟨go,i,none⟩) (by show go<_;omega)).trans ((bd.out.cell i).trans (Za3 ck));have cv:wq.cell? ⟨h.heap.size,s*6+2,none⟩=some (.int .i64 (cF a s i:Int)):=(hN.cell _).trans ((Zfh J (by omega)).trans (by rw[(hv s J).2.1]));have eo:=hN.frozen;have i5:cF a s i<=10000:=by have:=Ze4 (fun t=>shN a t==s) i;unfold cF;omega
   have cg:=hN.set (s*6+2) (.int .i64 ((cF a s i:Int)+1));rw[Znc J (by omega)]at cg;have d7:=bs.far (p:=⟨h.heap.size,s*6+2,none⟩) (by show h.heap.size+1≠h.heap.size;omega) (.int .i64 ((cF a s i:Int)+1));have es:=am.setCell (p:=⟨h.heap.size,s*6+2,none⟩) zl (.int .i64 ((cF a s i:Int)+1));have ae:∀s',s'<C->upd v s 2 ((cF a s i:Int)+1) s' 0=0/\upd v s 2 ((cF a s i:Int)+1) s' 2=(cF a s' (i+1):Int)/\upd v s 2 ((cF a s i:Int)+1) s' 3=0:=fun s' h9=>by
    obtain⟨a0,a2,a3⟩:=hv s' h9;refine⟨by rw[zaoq _ _ (.inr (by omega))];exact a0,?_,by rw[zaoq _ _ (.inr (by omega))];exact a3⟩;rw[cF_succ,cj];by_cases U:s'=s
    ·subst U;rw[Zlb,if_pos (by rw[beq_iff_eq])];omega
    ·rw[zaoq _ _ (.inl U),a2,if_neg (by rw[beq_iff_eq];omega)];omega
   generalize upd v s 2 ((cF a s i:Int)+1)=v2 at *;generalize iu:cF a s i=q at *;obtain⟨wu,dw⟩:∃wu,wq.setCell ⟨h.heap.size,s*6+2,none⟩ (.int .i64 ((q:Int)+1))=wu:=⟨_,rfl⟩;rw[dw]at cg d7 es;have ga:=(am.cell (p:=⟨w.heap.size,0,none⟩) (by show w.heap.size<_;omega)).trans e0;have i7:=zr h.heap.size wu;obtain⟨em,cx,cf,cu,hd,fu,f9,fb,ak⟩:=zz9 hN bs hv hL ck cj cg d7 ae;clear hN bs hv hL ck cj cg d7 ae;go_wp2_with fail
   try rw[dw]
   clear dw;go_loopw[9] (fun cv wr=>∃(c:Nat) (L2:List Int),3*i<=c/\c<=3*i+3/\cv=.int .i64 (c:Int)/\Bk wr h.heap.size 93 (numC C v2)/\Bk wr (h.heap.size+1) 3 (ivals L2)/\L2.length=C /\
    (∀s,s<C->L2[s]? = some ((twC T a s c:Nat):Int))/\Below h.heap.size w4 wr) (fun cv _=>3*i+3-(intOf cv).toNat)
   case atStart=>exact⟨3*i,L,by omega,by omega,congrArg (Value.int .i64) (by omega),f9.out,fb.out,gd,cu.out,es⟩
   case round =>
    obtain⟨c,L2,iq,ir,rfl,R,F,c4,ad,I⟩:=hrel;obtain⟨wp,dv⟩:∃wp,wp=wr:=⟨_,rfl⟩;subst dv;have h3:=I.size;by_cases it:c<3*i+3
    ·obtain⟨x,K⟩:∃x,twC T a s c=x:=⟨_,rfl⟩;have f5:x<=100000:=by have:=twC_le T a s c;omega
     have ct:wp.cell? ⟨h.heap.size+1,s,none⟩=some (.int .i64 (x:Int)):=(F.cell s).trans (Za3 (by rw[ad s J,K]));have g9:=F.frozen;have ac:shN a (c/3)=s:=by rw[show c/3=i by omega];exact fu.out
     have aa:∀u:Int,(twC T a s (c+1):Int)=u->∀s',s'<C->(L2.set s u)[s']? = some ((twC T a s' (c+1):Nat):Int):=fun u hu s' h9=>by
      rw[List.getElem?_set];by_cases U:s=s'
      ·subst U;rw[if_pos rfl,if_pos (by omega),hu]
      ·rw[if_neg U,ad s' h9,twC_succ,ac,if_neg (by rw[beq_iff_eq];exact U),Nat.add_zero]
     have S:=F.set s (.int .i64 ((x:Int)+1));rw[ivals_put]at S;have Z:=R.far (p:=⟨h.heap.size+1,s,none⟩) (by show h.heap.size≠h.heap.size+1;omega) (.int .i64 ((x:Int)+1));have y:=I.setCell (p:=⟨h.heap.size+1,s,none⟩) (by show h.heap.size<=h.heap.size+1;omega) (.int .i64 ((x:Int)+1));obtain⟨wv,bw⟩:∃wv,wp.setCell ⟨h.heap.size+1,s,none⟩ (.int .i64 ((x:Int)+1))=wv:=⟨_,rfl⟩;rw[bw]at S Z y;have j8:=y.size;have im:=(y.cell (p:=⟨w.heap.size,0,none⟩) (by show w.heap.size<_;omega)).trans e0;have Y:=ft.out wv y c (by omega);have a9:=twC_succ T a s c;rw[ac,if_pos (by rw[beq_iff_eq]),K]at a9;cases ho:opp T c with
     | some d =>
      rw[ho]at Y a9;have ar:oi (some d)=(d:Int):=rfl;rw[ar]at Y;have a8:=aa ((x:Int)+1) (by rw[a9];simp);have bt:(0:Int)<=(d:Int):=by omega
      obtain⟨M,O,bx,e8,aj,A,G,be,fw,g6,d1,ea⟩:=zz12 R F ad aa a8 S Z Y a9 ho K ac;have fr:=zz ar;clear R F ad aa a8 S Z Y a9 ho K ac ar;go_wp2_with fail
      try rw[bw]
      clear bw;refine be.out.mono ?_;rintro e w5 ⟨rfl,z⟩;go_wp2_with fail;have bk:=y.trans (z.mono (by omega));exact⟨⟨c+1,_,by omega,by omega,by simp,G.out.below z G.out.lt,A.out.below z A.out.lt,by rw[List.length_set];exact c4,aj.out,bk⟩,by simp[intOf];omega⟩
     | none =>
      rw[ho]at Y a9;have ar:oi none = -1:=rfl;rw[ar]at Y;have a8:=aa ((x:Int)+2) (by rw[a9];simp);have en:wv.cell? ⟨h.heap.size+1,s,none⟩=some (.int .i64 ((x:Int)+1)):=(S.cell s).trans (Za3 (by rw[List.getElem?_set,if_pos rfl,if_pos (by omega)]));have dp:((L2.set s ((x:Int)+1)).set s ((x:Int)+1+1))=L2.set s ((x:Int)+2):=by rw[List.set_set,show(x:Int)+1+1=(x:Int)+2 by omega]
      obtain⟨M,O,bx,e8,aj,A,G,be,fw,g6,d1,ea⟩:=zz12 R F ad aa a8 S Z Y a9 ho K ac;obtain⟨fr,f7,e9⟩:=zz3 ar en dp;clear R F ad aa a8 S Z Y a9 ho K ac ar en dp;go_wp2_with fail
      try rw[bw]
      clear bw;refine be.out.mono ?_;rintro e w5 ⟨rfl,z⟩;have D:=A.out.below z A.out.lt;have r:=G.out.below z G.out.lt;have ik:w5.cell? ⟨h.heap.size+1,s,none⟩=some (.int .i64 ((x:Int)+1)):=(z.cell (p:=⟨h.heap.size+1,s,none⟩) A.out.lt).trans f7.out;have hw:=D.frozen;have H:=D.set s (.int .i64 ((x:Int)+1+1));rw[ivals_put,e9.out]at H;have E:=r.far (p:=⟨h.heap.size+1,s,none⟩) (by show h.heap.size≠h.heap.size+1;omega) (.int .i64 ((x:Int)+1+1));have bk:=(y.trans (z.mono (by omega))).setCell (p:=⟨h.heap.size+1,s,none⟩) (by show h.heap.size<=h.heap.size+1;omega) (.int .i64 ((x:Int)+1+1));clear ct g9;obtain⟨bc,bb,a5,a4,e4⟩:=zz5 D r H E bk;clear D r H E bk;go_wp2_with fail;exact⟨⟨c+1,_,by omega,by omega,by simp,a4.out,a5.out,by rw[List.length_set];exact c4,aj.out,e4.out⟩,by simp[intOf];omega⟩
    ·obtain rfl:c=3*i+3:=by omega
     obtain⟨M,O,bx⟩:=zz3 R F ad;clear R F ad;go_wp2_with fail;exact⟨⟨i+1,v2,L2,by omega,by simp,M.out,O.out,c4,ak.out,bx.out,I⟩,by simp[intOf];omega⟩
  ·obtain rfl:i=T.length:=by omega
   have du:=bg.out.below am (show B<=h.heap.size by omega);have f4:=Zmo du;have ga:=(am.cell (p:=⟨w.heap.size,0,none⟩) (by show w.heap.size<_;omega)).trans e0;obtain⟨em,cx,cf,cu,hg,g0⟩:=zz6 hN bs hv hL du f4;clear hN bs hv hL du f4;go_wp2_with fail;refine g0.out.mono ?_;rintro e w5 ⟨rfl,rfl⟩;go_wp2_with fail;go_loopw[66] (fun iv wr=>∃(u:Nat) (v2:Nat->Nat->Int),u<=n/\iv=.int .i64 (u:Int)/\Bk wr h.heap.size 93 (numC C v2)/\Bk wr (h.heap.size+1) 3 (ivals L) /\
    (∀s,s<C->v2 s 0=(cV T a s u:Int)/\v2 s 2=(cF a s T.length:Int)/\v2 s 3=0)/\Below h.heap.size w4 wr) (fun iv _=>n-(intOf iv).toNat)
   case atStart=>exact⟨0,v,by omega,rfl,em.out,cx.out,fun s hs=>⟨(cf.out s hs).1,(cf.out s hs).2.1,(cf.out s hs).2.2⟩,am⟩
   case round =>
    obtain⟨u,v2,hu,rfl,R,F,b8,I⟩:=hrel;obtain⟨wp,dv⟩:∃wp,wp=wr:=⟨_,rfl⟩;subst dv;have h3:=I.size;by_cases j1:u<n
    ·have bu:=Zum (w:=wp) (B:=B) (bg.out.below I (show B<=h.heap.size by omega)) Q.out ai.out (bd.out.below I (by omega)) (cd.out.below I (by omega)) (cc.out.below I (by omega)) u (by omega);have gh:=(cnr_at Q.out (v:=u) (by omega)).2.1;obtain⟨J,_,_⟩:=c1.out (cnr T u/3) (by omega);have an:=fun s'=>cV_succ T a s' u
     generalize shN a (cnr T u/3)=s at *;have aq:=fun s'=>Ze4 (fun v=>shN a (cnr T v/3)==s') u
     have aw:=(b8 s J).1;obtain⟨x,K⟩:∃x,cV T a s u=x:=⟨_,rfl⟩;have f5:x<=10000:=by have:=aq s;unfold cV at K;omega
     rw[K]at aw;have ae:∀s',s'<C->upd v2 s 0 ((x:Int)+1) s' 0=(cV T a s' (u+1):Int)/\upd v2 s 0 ((x:Int)+1) s' 2=(cF a s' T.length:Int)/\upd v2 s 0 ((x:Int)+1) s' 3=0:=fun s' h9=>by
      obtain⟨a0,a2,a3⟩:=b8 s' h9;refine⟨?_,by rw[zaoq _ _ (.inr (by omega))];exact a2,by rw[zaoq _ _ (.inr (by omega))];exact a3⟩;rw[an];by_cases U:s'=s
      ·subst U;rw[Zlb,if_pos (by rw[beq_iff_eq]),K];omega
      ·rw[zaoq _ _ (.inl U),a0,if_neg (by rw[beq_iff_eq];omega)];omega
     obtain⟨M,O,bh,bz,fd,fp,c3,d1,ak⟩:=zz9 R F b8 bu an aq aw K ae;clear R F b8 bu an aq aw K ae;go_wp2_with fail;refine bz.out.mono ?_;rintro e w5 ⟨rfl,z⟩;have r:=M.out.below z M.out.lt;have D:=O.out.below z O.out.lt;have cv:w5.cell? ⟨h.heap.size,s*6,none⟩=some (.int .i64 (x:Int)):=(r.cell (s*6+0)).trans ((Zfh J (by omega)).trans (by rw[c3.out]));have eo:=r.frozen;have E:=r.set (s*6+0) (.int .i64 ((x:Int)+1));rw[Znc J (by omega)]at E;have H:=D.far (p:=⟨h.heap.size,s*6+0,none⟩) (by show h.heap.size+1≠h.heap.size;omega) (.int .i64 ((x:Int)+1));have V:=(I.trans (z.mono (by omega))).setCell (p:=⟨h.heap.size,s*6+0,none⟩) zl (.int .i64 ((x:Int)+1));rw[Nat.add_zero]at E H V;obtain⟨bb,bc,a4,a5,fc⟩:=zz5 r D E H V;clear r D E H V;go_wp2_with fail;exact⟨⟨u+1,_,by omega,by simp,a4.out,a5.out,ak.out,fc.out⟩,by simp[intOf];omega⟩
    ·obtain rfl:n=u:=by omega
     have dt:=bg.out.below I (show B<=h.heap.size by omega);have dk:=Za7 (w:=wp) (.inl dt) Q.out;rw[zC]at dk;have il:=(I.cell (p:=⟨w.heap.size,0,none⟩) (by show w.heap.size<_;omega)).trans e0;obtain⟨M,O,bh,hf,fq⟩:=zz5 R F b8 dt dk;clear R F b8 dt dk;go_wp2_with fail;refine fq.out.mono ?_;rintro e w5 ⟨⟨rv,rfl,ah⟩,z⟩;have j5:=z.size;obtain⟨m,bq⟩:∃m,lps T (n:Int) n=m:=⟨_,rfl⟩;have ef:=Zec T (n:Int) n;have d4:∀j (hj:j<m.length),3<=m[j].length:=fun j hj=>(Q.out.lps_each n _ (by rw[bq];exact zM hj)).1
     have er:∀j (hj:j<m.length),m[j].headD 0<n:=fun j hj=>by
      have h1:=d4 j hj;have hm:m[j].headD 0∈m[j]:=by
       cases hl:m[j]with
       | nil=>rw[hl]at h1;simp at h1
       | cons x l=>exact List.mem_cons_self ..
      have:=Q.out.lps_lt (L:=m[j]) (k:=n) (by rw[bq];exact zM hj) hm;omega
     rw[bq]at ah ef;obtain⟨Ar,bi,rfl⟩:∃Ar bi,rv=.slice Ar m.length bi:=by
      obtain⟨vs,_,h9,_⟩:=ah;obtain⟨Ar,bi,h8,_⟩:=zaeq h9;exact⟨Ar,bi,h8⟩
     have r:=M.out.below z M.out.lt;have D:=O.out.below z O.out.lt;have g3:=I.trans (z.mono (by omega));obtain⟨cy,ba,cs,f8,bb,bc⟩:=zz6 ah bq d4 er r D;clear ah bq d4 er r D;go_wp2_with fail;go_loopw[83] (fun iv wr=>∃(j:Nat) (v3:Nat->Nat->Int),j<=m.length/\iv=.int .i64 (j:Int)/\Bk wr h.heap.size 93 (numC C v3)/\Bk wr (h.heap.size+1) 3 (ivals L) /\
      (∀s,s<C->v3 s 0=(cV T a s n:Int)/\v3 s 2=(cF a s T.length:Int)/\v3 s 3=(cB T a (m.take j) s:Int))/\Below h.heap.size w4 wr/\(∀b,wp.heap.size<=b->b<w5.heap.size->wr.heap[b]? = w5.heap[b]?)/\w5.heap.size<=wr.heap.size) (fun iv _=>m.length-(intOf iv).toNat)
     case atStart=>exact⟨0,v2,by omega,rfl,bb.out,bc.out,fun s hs=>⟨(bh.out s hs).1,(bh.out s hs).2.1,(bh.out s hs).2.2⟩,g3,fun _ _ _=>rfl,zl⟩
     case round =>
      obtain⟨j,v3,hj,rfl,Z,S,au,y,ao,i8⟩:=hrel;obtain⟨wy,gy⟩:∃wy,wy=wr:=⟨_,rfl⟩;subst gy;by_cases ap:j<m.length
      ·obtain⟨gr,gl,g7,rfl,eu,gq,gs,gk,gm,et⟩:=rows_in cy.out rfl ap (by have:=cs.out j ap;omega);have i2:wy.cell? ⟨gr,j,none⟩=some (.slice (some ⟨gl,0,none⟩) m[j].length g7):=(World.cell?_of_block (ao gr gq gs)).trans eu;have i1:wy.cell? ⟨gl,0,none⟩=some (.int .i64 (m[j].headD 0:Int)):=(World.cell?_of_block (ao gl gk gm)).trans et;have j0:=f8.out j ap;have io:=cs.out j ap;have ix:m[j].length<=20000:=by
        have h1:=Zfw n m[j] (Q.out.lps_round (k:=n) (by rw[ba.out];exact zM ap)).2.1 fun x K=>by
         have:=Q.out.lps_lt (L:=m[j]) (k:=n) (by rw[ba.out];exact zM ap) K;omega
        omega
       have an:=fun s'=>cB_take T a m s' j ap
       have aq:=fun s'=>List.countP_le_length (p:=fun l:List Nat=>shN a (cnr T (l.headD 0)/3)==s') (l:=m.take j)
       generalize m[j].headD 0=u at *;generalize m[j].length=ll at *;have bu:=Zum (w:=wy) (B:=B) (bg.out.below y (show B<=h.heap.size by omega)) Q.out ai.out (bd.out.below y (by omega)) (cd.out.below y (by omega)) (cc.out.below y (by omega)) u (by omega);have gh:=(cnr_at Q.out (v:=u) (by omega)).2.1;obtain⟨J,_,_⟩:=c1.out (cnr T u/3) (by omega);generalize shN a (cnr T u/3)=s at *;have aw:=(au s J).2.2;obtain⟨x,K⟩:∃x,cB T a (m.take j) s=x:=⟨_,rfl⟩;have f5:x<=10000:=by
        have:=aq s;rw[List.length_take]at this;unfold cB at K;omega
       rw[K]at aw;have ae:∀s',s'<C->upd v3 s 3 ((x:Int)+1) s' 0=(cV T a s' n:Int)/\upd v3 s 3 ((x:Int)+1) s' 2=(cF a s' T.length:Int)/\upd v3 s 3 ((x:Int)+1) s' 3=(cB T a (m.take (j+1)) s':Int):=fun s' h9=>by
        obtain⟨a0,a2,a3⟩:=au s' h9;refine⟨by rw[zaoq _ _ (.inr (by omega))];exact a0,by rw[zaoq _ _ (.inr (by omega))];exact a2,?_⟩;rw[an];by_cases U:s'=s
        ·subst U;rw[Zlb,if_pos (by rw[beq_iff_eq]),K];omega
        ·rw[zaoq _ _ (.inl U),a3,if_neg (by rw[beq_iff_eq];omega)];omega
       clear eu et;obtain⟨G,A,cz,bz,fd,fp,c3,d1,ak,e6⟩:=zz10 Z S au bu an aq aw K ae ao;clear Z S au bu an aq aw K ae ao;go_wp2_with fail;refine bz.out.mono ?_;rintro e w6 ⟨rfl,V⟩;have j6:=V.size;have r:=G.out.below V G.out.lt;have D:=A.out.below V A.out.lt;have cv:w6.cell? ⟨h.heap.size,s*6+3,none⟩=some (.int .i64 (x:Int)):=(r.cell (s*6+3)).trans ((Zfh J (by omega)).trans (by rw[c3.out]));have eo:=r.frozen;have E:=r.set (s*6+3) (.int .i64 ((x:Int)+1));rw[Znc J (by omega)]at E;have H:=D.far (p:=⟨h.heap.size,s*6+3,none⟩) (by show h.heap.size+1≠h.heap.size;omega) (.int .i64 ((x:Int)+1));have dd:=(y.trans (V.mono (by omega))).setCell (p:=⟨h.heap.size,s*6+3,none⟩) zl (.int .i64 ((x:Int)+1));have ew:∀b,wp.heap.size<=b->b<w5.heap.size->(w6.setCell ⟨h.heap.size,s*6+3,none⟩ (.int .i64 ((x:Int)+1))).heap[b]? = w5.heap[b]?:=fun b h1 h2=>by
        rw[Below.heap_setCell _ ⟨h.heap.size,s*6+3,none⟩ _ b (by show b≠h.heap.size;omega),V.block b (by omega)];exact e6.out b h1 h2
       have f6:w5.heap.size<=(w6.setCell ⟨h.heap.size,s*6+3,none⟩ (.int .i64 ((x:Int)+1))).heap.size:=by rw[World.size_setCell];omega
       obtain⟨bb,bc,a4,a5,e5,fh,g1⟩:=zz7 r D E H dd ew f6;clear r D E H dd ew f6;go_wp2_with fail;exact⟨⟨j+1,_,by omega,by simp,a4.out,a5.out,ak.out,e5.out,fh.out,g1.out⟩,by simp[intOf];omega⟩
      ·obtain rfl:m.length=j:=by omega
       rw[List.take_length]at au;clear ao;obtain⟨G,A,cz⟩:=zz3 Z S au;clear Z S au;go_wp2_with fail;go_loopw[102] (fun iv wr=>∃(i:Nat) (o:Nat->Nat->Int),i<=C/\iv=.int .i64 (i:Int)/\Bk wr h.heap.size 93 (numC C o)/\Bk wr (h.heap.size+1) 3 (ivals L) /\
        (∀s,s<C->o s 0=(cV T a s n:Int)/\o s 2=(cF a s T.length:Int)/\o s 3=(cB T a m s:Int))/\(∀s,s<i->o s 1=(gE T a s:Int)/\o s 4=gU (n:Int) T a s/\o s 5=gG (n:Int) T a s)/\Below h.heap.size w4 wr) (fun iv _=>C-(intOf iv).toNat)
       case atStart=>exact⟨0,v3,by omega,rfl,G.out,A.out,cz.out,fun s hs=>by omega,y⟩
       case round =>
        obtain⟨i,o,hi,rfl,br,b6,av,b7,c7⟩:=hrel;obtain⟨wx,gx⟩:∃wx,wx=wr:=⟨_,rfl⟩;subst gx;have j9:=c7.size;by_cases X:i<C
        ·obtain⟨a0,a2,a3⟩:=av i X;have l0:cV T a i n<=1000000:=by have:=Ze4 (fun v=>shN a (cnr T v/3)==i) n;unfold cV;omega
         have l2:cF a i T.length<=1000000:=by have:=Ze4 (fun t=>shN a t==i) T.length;unfold cF;omega
         have l3:cB T a m i<=1000000:=by have:=List.countP_le_length (p:=fun l:List Nat=>shN a (cnr T (l.headD 0)/3)==i) (l:=m);unfold cB;omega
         have l4:twC T a i (3*T.length)<=1000000:=by have:=twC_le T a i (3*T.length);omega
         have k0:=Zfh (g:=o) X (f:=0) (by omega);have k2:=Zfh (g:=o) X (f:=2) (by omega);have k3:=Zfh (g:=o) X (f:=3) (by omega);rw[a0]at k0;rw[a2]at k2;rw[a3]at k3;have d5:Bk wx.drew h.heap.size 93 (numC C o):=br;have hU:((cV T a i n:Nat):Int)-((gE T a i:Nat):Int)+((cF a i T.length:Nat):Int)=gU (n:Int) T a i:=by unfold gU;rw[zC]
         have hG:((2:Int)-((cB T a m i:Nat):Int)-gU (n:Int) T a i).tdiv 2=gG (n:Int) T a i:=by unfold gG;rw[zC,ba.out]
         have bt:=Zz6 (w:=wx.drew) (g:=h.heap.size) (k:=i*6) d5 k0 (Zfh X (f:=1) (by omega)) k2 k3 (Zfh X (f:=4) (by omega)) (Zfh X (f:=5) (by omega)) l0 l2 l3 l4 rfl hU hG;have ct:wx.drew.cell? ⟨h.heap.size+1,i,none⟩=some (.int .i64 ((twC T a i (3*T.length):Nat):Int)):=(b6.cell i).trans (Za3 (cu.out i X));have he:(((numC C o).set (i*6+1) (.int .i64 ((gE T a i:Nat):Int))).set (i*6+4) (.int .i64 (gU (n:Int) T a i))).set (i*6+5) (.int .i64 (gG (n:Int) T a i))=numC C (upd (upd (upd o i 1 (gE T a i:Nat)) i 4 (gU (n:Int) T a i)) i 5 (gG (n:Int) T a i)):=by
          rw[Znc X (by omega),Znc X (by omega),Znc X (by omega)]
         have ep:twC T a i (3*T.length)/2=gE T a i:=rfl;rw[ep]at bt;rw[he]at bt;have f2:∀s,s<C->(upd (upd (upd o i 1 (gE T a i:Nat)) i 4 (gU (n:Int) T a i)) i 5 (gG (n:Int) T a i)) s 0=(cV T a s n:Int)/\(upd (upd (upd o i 1 (gE T a i:Nat)) i 4 (gU (n:Int) T a i)) i 5 (gG (n:Int) T a i)) s 2=(cF a s T.length:Int)/\(upd (upd (upd o i 1 (gE T a i:Nat)) i 4 (gU (n:Int) T a i)) i 5 (gG (n:Int) T a i)) s 3=(cB T a m s:Int):=fun s hs=>by
          rw[zaoq _ _ (.inr (by omega)),zaoq _ _ (.inr (by omega)),zaoq _ _ (.inr (by omega)),zaoq _ _ (.inr (by omega)),zaoq _ _ (.inr (by omega)),zaoq _ _ (.inr (by omega)),zaoq _ _ (.inr (by omega)),zaoq _ _ (.inr (by omega)),zaoq _ _ (.inr (by omega))];exact av s hs
         have f3:∀s,s<i+1->(upd (upd (upd o i 1 (gE T a i:Nat)) i 4 (gU (n:Int) T a i)) i 5 (gG (n:Int) T a i)) s 1=(gE T a s:Int)/\(upd (upd (upd o i 1 (gE T a i:Nat)) i 4 (gU (n:Int) T a i)) i 5 (gG (n:Int) T a i)) s 4=gU (n:Int) T a s/\(upd (upd (upd o i 1 (gE T a i:Nat)) i 4 (gU (n:Int) T a i)) i 5 (gG (n:Int) T a i)) s 5=gG (n:Int) T a s:=fun s hs=>by
          by_cases a1:s=i
          ·subst a1;refine⟨?_,?_,Zlb _ _ _ _⟩
           ·rw[zaoq _ _ (.inr (by omega)),zaoq _ _ (.inr (by omega)),Zlb]
           ·rw[zaoq _ _ (.inr (by omega)),Zlb]
          ·rw[zaoq _ _ (.inl a1),zaoq _ _ (.inl a1),zaoq _ _ (.inl a1),zaoq _ _ (.inl a1),zaoq _ _ (.inl a1),zaoq _ _ (.inl a1),zaoq _ _ (.inl a1),zaoq _ _ (.inl a1),zaoq _ _ (.inl a1)];exact b7 s (by omega)
         generalize (upd (upd (upd o i 1 (gE T a i:Nat)) i 4 (gU (n:Int) T a i)) i 5 (gG (n:Int) T a i))=v5 at *;have d6:Bk wx.drew (h.heap.size+1) 3 (ivals L):=b6;have gf:=c7.drew;clear he ep hU hG l0 l2 l3 a0 a2 a3;generalize twC T a i (3*T.length)=tw at *;obtain⟨cw,fa,fx,ff,fg,fy,fz,e2,ha,ih,ii,ij⟩:=zz12 br b6 av b7 bt f2 f3 d6 d5 k0 k2 k3;clear br b6 av b7 bt f2 f3 d6 d5 k0 k2 k3;go_wp2_with fail;refine Canon.wp_region_text mixed (by kernel_rfl) ?_;go_wp2_with fail;refine fg.out.mono ?_;rintro e w6 ⟨⟨ja,rfl⟩,bv⟩;have E:=bv.1;have H:Bk w6 (h.heap.size+1) 3 (ivals L):=(bv.2.2.2 (h.heap.size+1) (by omega)).trans e2.out;have V:=gf.trans (bv.below zl);obtain⟨hb,a4,a5⟩:=zz3 bv E H;clear bv E H;go_wp2_with fail;refine Canon.chk (by rfl) ?_;go_wp2_with fail;exact⟨⟨i+1,v5,by omega,by simp,a4.out,a5.out,fy.out,fz.out,V⟩,by simp[intOf];omega⟩
        ·obtain rfl:C=i:=by omega
         have gg:=ee.trans (c7.mono (by omega));have de:∀s,s<C->o s 0=(cV T a s n:Int)/\o s 1=(gE T a s:Int)/\o s 2=(cF a s T.length:Int)/\o s 3=(cB T a (lps T (n:Int) n) s:Int)/\o s 4=gU (n:Int) T a s/\o s 5=gG (n:Int) T a s:=fun s hs=>by
          rw[ba.out];obtain⟨b0,b2,b3⟩:=av s hs;obtain⟨b1,b4,b5⟩:=b7 s hs;exact⟨b0,b1,b2,b3,b4,b5⟩
         obtain⟨cw,fa,fx,ff,e7⟩:=zz5 br b6 av b7 de;clear br b6 av b7 de;go_wp2_with fail;go_ret;exact⟨⟨h.heap.size,a,C,o,rfl,by omega,ai.out,cw.out,e7.out⟩,gg⟩
open Go Go.RowKit Go.Words Go.Mesh
theorem Zyq{f:Nat->Int}{m:Int}:∀C:Nat,(∀s,s<C -> -m<=f s/\f s<=m) -> -m*(C:Int)<=sumI f C/\sumI f C<=m*(C:Int)
 | 0,_=>by
  have:sumI f 0=0:=rfl;rw[this];simp
 | C+1,h=>by
  have c:=Zyq C fun s hs=>h s (by omega)
  have d:=h C (by omega);have a:m*((C+1:Nat):Int)=m*(C:Int)+m:=by rw[Int.natCast_add,Int.mul_add];simp
  have b:-m*((C+1:Nat):Int) = -m*(C:Int) + -m:=by rw[Int.natCast_add,Int.mul_add];simp
  rw[Zdc,a,b];omega
theorem Ze7{w:World}{B:Nat}{tv:Value}{N:Int}{T:List T3}(ht:Tab w B tv N T)(hs:Surf N T) :
  Calls Tryz.prog 53 #[tv] w fun e w'=>(∃(k o q d h j:Int) (c:List Int) (C:Nat),e=.returned (.agg #[.int .i64 k,.int .i64 o,.int .i64 q,.int .i64 d,.int .i64 h,.int .i64 j])/\Pt T c C T.length /\
   d=sumI (fun s=>(cB T c (lps T N N.toNat) s:Int)) C/\h=sumI (fun s=>gU N T c s) C/\j=sumI (fun s=>gG N T c s) C)/\Below w.heap.size w w':=by
 obtain⟨gt,rfl⟩:∃gt,tv=.pointer (some gt):=by
  obtain⟨g,_,_,_,_,_,rfl,_⟩:=ht;exact⟨_,rfl⟩
 have hB:=ht.le;obtain⟨Z,I⟩:∃Z,(w.alloc (.cells #[.int .i64 0,.int .i64 0,.int .i64 0,.int .i64 0,.int .i64 0,.int .i64 0] 93)).alloc (.cells #[.int .i64 0,.int .i64 0,.int .i64 0,.int .i64 0,.int .i64 0,.int .i64 0] 93)=Z:=⟨_,rfl⟩;have aq:Below w.heap.size w Z:=by rw[<- I];exact((zr w.heap.size w).alloc zl _).alloc (by simp) _
 have ar:Bk Z w.heap.size 93 [.int .i64 0,.int .i64 0,.int .i64 0,.int .i64 0,.int .i64 0,.int .i64 0]:=by rw[<- I];exact(Bk.new w _ _).alloc _
 have au:Bk Z (w.heap.size+1) 93 [.int .i64 0,.int .i64 0,.int .i64 0,.int .i64 0,.int .i64 0,.int .i64 0]:=by rw[<- I];exact Bk.new' (n:=w.heap.size+1) (w:=w.alloc (.cells #[.int .i64 0,.int .i64 0,.int .i64 0,.int .i64 0,.int .i64 0,.int .i64 0] 93)) _ _ (by simp)
 have ct:Z.heap.size=w.heap.size+2:=by rw[<- I];simp
 have aw:=genof_calls (ht.below aq hB) hs;obtain⟨cp,a6,b8,b9,bb⟩:=zz5 ht hs ar au aw;clear ht hs ar au aw;go_enter Tryz.func53,Tryz.ntmps53;go_wp2_with fail
 try rw[I]
 clear I;refine bb.out.mono ?_;rintro e w1 ⟨⟨g,c,C,v,rfl,hg,ag,av,hv⟩,U⟩;have cu:=U.size;have ao:=aq.trans (U.mono (by omega));have hC:=ag.np;have cs:=a6.out.tmax;have cr:=a6.out.nmax;have cq:=a6.out.n0;have S:=b8.out.below U (by omega);have af:=b9.out.below U (by omega);have x:∀f,f<6->∀s,s<C -> -1000000<=v s f/\v s f<=1000000:=fun f hf s hs=>by
  obtain⟨b0,b1,b2,b3,b4,b5⟩:=hv s hs;have l0:cV T c s N.toNat<=4096:=by have:=Ze4 (fun v=>shN c (cnr T v/3)==s) N.toNat;unfold cV;omega
  have l1:gE T c s<=50000:=by have:=twC_le T c s (3*T.length);unfold twC at this;unfold gE;omega
  have l2:cF c s T.length<=8192:=by have:=Ze4 (fun t=>shN c t==s) T.length;unfold cF;omega
  have l3:cB T c (lps T N N.toNat) s<=4096:=by
   have:=List.countP_le_length (p:=fun l:List Nat=>shN c (cnr T (l.headD 0)/3)==s) (l:=lps T N N.toNat);have h9:=Zec T N N.toNat;unfold cB;omega
  have l4:-60000<=gU N T c s/\gU N T c s<=60000:=by unfold gU;omega
  have l5:-100000<=gG N T c s/\gG N T c s<=100000:=by
   have h1:=Int.tmod_def ((2:Int)-(cB T c (lps T N N.toNat) s:Int)-gU N T c s) 2;have A:=Zj7 ((2:Int)-(cB T c (lps T N N.toNat) s:Int)-gU N T c s) (n:=2) (by omega);unfold gG;omega
  rcases(by omega:f=0\/f=1\/f=2\/f=3\/f=4\/f=5)with rfl|rfl|rfl|rfl|rfl|rfl
  ·rw[b0];omega
  ·rw[b1];omega
  ·rw[b2];omega
  ·rw[b3];omega
  ·rw[b4];omega
  ·rw[b5];omega
 generalize aj:([.int .i64 0,.int .i64 0,.int .i64 0,.int .i64 0,.int .i64 0,.int .i64 0]:List Value)=z6 at S;have c9:z6.length=6:=by rw[<- aj];rfl
 obtain⟨bc,ba,a7,am,an,z⟩:=zz6 ag av hv S af aj;clear ag av hv S af aj;go_wp2_with fail;go_loopw[9] (fun iv wr=>∃(i:Nat) (k o q d h j:Int),i<=C/\iv=.int .i64 (i:Int)/\Bk wr w.heap.size 93 z6/\Bk wr (w.heap.size+1) 93 [.int .i64 k,.int .i64 o,.int .i64 q,.int .i64 d,.int .i64 h,.int .i64 j]/\Bk wr g 93 (numC C v) /\
  (k=sumI (fun s=>v s 0) i/\o=sumI (fun s=>v s 1) i/\q=sumI (fun s=>v s 2) i/\d=sumI (fun s=>v s 3) i/\h=sumI (fun s=>v s 4) i/\j=sumI (fun s=>v s 5) i)/\Below w.heap.size w wr/\w1.heap.size<=wr.heap.size) (fun iv _=>C-(intOf iv).toNat)
 case atStart=>exact⟨0,0,0,0,0,0,0,by omega,rfl,am.out,an.out,ba.out,⟨rfl,rfl,rfl,rfl,rfl,rfl⟩,ao,zl⟩
 case round =>
  obtain⟨i,k,o,q,d,h,j,hi,rfl,A,G,H,ai,ae,cw⟩:=hrel;obtain⟨a,bv⟩:∃a,a=wr:=⟨_,rfl⟩;subst bv;by_cases u:i<C
  ·have E:=fun f (hf:f<6)=>Zyq (f:=fun s=>v s f) (m:=1000000) i fun s hs=>x f hf s (by omega)
   obtain⟨e0,e1,e2,W,X,Y⟩:=ai;have m0:=E 0 (by omega);have m1:=E 1 (by omega);have m2:=E 2 (by omega);have m3:=E 3 (by omega);have m4:=E 4 (by omega);have m5:=E 5 (by omega);rw[<- e0]at m0;rw[<- e1]at m1;rw[<- e2]at m2;rw[<- W]at m3;rw[<- X]at m4;rw[<- Y]at m5;have n0:=x 0 (by omega) i u;have n1:=x 1 (by omega) i u;have n2:=x 2 (by omega) i u;have n3:=x 3 (by omega) i u;have n4:=x 4 (by omega) i u;have n5:=x 5 (by omega) i u;have k0:a.cell? ⟨g,i*6,none⟩=some (.int .i64 (v i 0)):=(H.cell _).trans (Zfh u (f:=0) (by omega));have k1:a.cell? ⟨g,i*6+1,none⟩=some (.int .i64 (v i 1)):=(H.cell _).trans (Zfh u (by omega));have k2:a.cell? ⟨g,i*6+2,none⟩=some (.int .i64 (v i 2)):=(H.cell _).trans (Zfh u (by omega));have k3:a.cell? ⟨g,i*6+3,none⟩=some (.int .i64 (v i 3)):=(H.cell _).trans (Zfh u (by omega));have k4:a.cell? ⟨g,i*6+4,none⟩=some (.int .i64 (v i 4)):=(H.cell _).trans (Zfh u (by omega));have k5:a.cell? ⟨g,i*6+5,none⟩=some (.int .i64 (v i 5)):=(H.cell _).trans (Zfh u (by omega));have az:k+v i 0=sumI (fun s=>v s 0) (i+1)/\o+v i 1=sumI (fun s=>v s 1) (i+1)/\q+v i 2=sumI (fun s=>v s 2) (i+1)/\d+v i 3=sumI (fun s=>v s 3) (i+1)/\h+v i 4=sumI (fun s=>v s 4) (i+1)/\j+v i 5=sumI (fun s=>v s 5) (i+1):=by
    rw[Zdc,Zdc,Zdc,Zdc,Zdc,Zdc,<- e0,<- e1,<- e2,<- W,<- X,<- Y];exact⟨rfl,rfl,rfl,rfl,rfl,rfl⟩
   clear e0 e1 e2 W X Y;generalize v i 0=J at *;generalize v i 1=K at *;generalize v i 2=L at *;generalize v i 3=M at *;generalize v i 4=O at *;generalize v i 5=P at *;obtain⟨r,F⟩:∃r,a.alloc (.cells #[.int .i64 J,.int .i64 K,.int .i64 L,.int .i64 M,.int .i64 O,.int .i64 P] 93)=r:=⟨_,rfl⟩;have D:Bk r a.heap.size 93 [.int .i64 J,.int .i64 K,.int .i64 L,.int .i64 M,.int .i64 O,.int .i64 P]:=by rw[<- F];exact Bk.new a _ _
   have ac:Bk r w.heap.size 93 z6:=by rw[<- F];exact A.alloc _
   have y:Bk r (w.heap.size+1) 93 [.int .i64 k,.int .i64 o,.int .i64 q,.int .i64 d,.int .i64 h,.int .i64 j]:=by rw[<- F];exact G.alloc _
   have ad:Bk r g 93 (numC C v):=by rw[<- F];exact H.alloc _
   have bu:Below w.heap.size w r:=by rw[<- F];exact ae.alloc ae.size _
   have cv:r.heap.size=a.heap.size+1:=by rw[<- F];simp
   have p0:r.cell? ⟨w.heap.size+1,0,none⟩=some (.int .i64 k):=y.cell 0;have p1:r.cell? ⟨w.heap.size+1,1,none⟩=some (.int .i64 o):=y.cell 1;have p2:r.cell? ⟨w.heap.size+1,2,none⟩=some (.int .i64 q):=y.cell 2;have p3:r.cell? ⟨w.heap.size+1,3,none⟩=some (.int .i64 d):=y.cell 3;have p4:r.cell? ⟨w.heap.size+1,4,none⟩=some (.int .i64 h):=y.cell 4;have p5:r.cell? ⟨w.heap.size+1,5,none⟩=some (.int .i64 j):=y.cell 5;have pf:=y.frozen;have q0:r.cell? ⟨a.heap.size,0,none⟩=some (.int .i64 J):=D.cell 0;have q1:r.cell? ⟨a.heap.size,1,none⟩=some (.int .i64 K):=D.cell 1;have q2:r.cell? ⟨a.heap.size,2,none⟩=some (.int .i64 L):=D.cell 2;have q3:r.cell? ⟨a.heap.size,3,none⟩=some (.int .i64 M):=D.cell 3;have q4:r.cell? ⟨a.heap.size,4,none⟩=some (.int .i64 O):=D.cell 4;have q5:r.cell? ⟨a.heap.size,5,none⟩=some (.int .i64 P):=D.cell 5;have V:=(((((y.set 0 (.int .i64 (k+J))).set 1 (.int .i64 (o+K))).set 2 (.int .i64 (q+L))).set 3 (.int .i64 (d+M))).set 4 (.int .i64 (h+O))).set 5 (.int .i64 (j+P));have V:Bk _ (w.heap.size+1) 93 [.int .i64 (k+J),.int .i64 (o+K),.int .i64 (q+L),.int .i64 (d+M),.int .i64 (h+O),.int .i64 (j+P)]:=V;have ax:=(((((ac.far (p:=⟨w.heap.size+1,0,none⟩) (by show w.heap.size≠w.heap.size+1;omega) (.int .i64 (k+J))).far (p:=⟨w.heap.size+1,1,none⟩) (by show w.heap.size≠w.heap.size+1;omega) (.int .i64 (o+K))).far (p:=⟨w.heap.size+1,2,none⟩) (by show w.heap.size≠w.heap.size+1;omega) (.int .i64 (q+L))).far (p:=⟨w.heap.size+1,3,none⟩) (by show w.heap.size≠w.heap.size+1;omega) (.int .i64 (d+M))).far (p:=⟨w.heap.size+1,4,none⟩) (by show w.heap.size≠w.heap.size+1;omega) (.int .i64 (h+O))).far (p:=⟨w.heap.size+1,5,none⟩) (by show w.heap.size≠w.heap.size+1;omega) (.int .i64 (j+P));have ay:=(((((ad.far (p:=⟨w.heap.size+1,0,none⟩) (by show g≠w.heap.size+1;omega) (.int .i64 (k+J))).far (p:=⟨w.heap.size+1,1,none⟩) (by show g≠w.heap.size+1;omega) (.int .i64 (o+K))).far (p:=⟨w.heap.size+1,2,none⟩) (by show g≠w.heap.size+1;omega) (.int .i64 (q+L))).far (p:=⟨w.heap.size+1,3,none⟩) (by show g≠w.heap.size+1;omega) (.int .i64 (d+M))).far (p:=⟨w.heap.size+1,4,none⟩) (by show g≠w.heap.size+1;omega) (.int .i64 (h+O))).far (p:=⟨w.heap.size+1,5,none⟩) (by show g≠w.heap.size+1;omega) (.int .i64 (j+P));have b:w.heap.size<=w.heap.size+1:=by omega
   have Q:=(((((bu.setCell (p:=⟨w.heap.size+1,0,none⟩) b (.int .i64 (k+J))).setCell (p:=⟨w.heap.size+1,1,none⟩) b (.int .i64 (o+K))).setCell (p:=⟨w.heap.size+1,2,none⟩) b (.int .i64 (q+L))).setCell (p:=⟨w.heap.size+1,3,none⟩) b (.int .i64 (d+M))).setCell (p:=⟨w.heap.size+1,4,none⟩) b (.int .i64 (h+O))).setCell (p:=⟨w.heap.size+1,5,none⟩) b (.int .i64 (j+P));obtain⟨bn,bo,bp,bw,bx,bz,c0,bh,be,bd,bg,R⟩:=zz12 A G H ac y ad D az V ax ay Q;obtain⟨c1,b7⟩:=zz2 E x;clear A G H ac y ad D az V ax ay Q E x;go_wp2_with fail
   try rw[F]
   clear F;refine⟨⟨i+1,k+J,o+K,q+L,d+M,h+O,j+P,by omega,?_,bd.out,be.out,bg.out,bh.out,R.out,?_⟩,?_⟩
   ·simp
   ·simp only[World.size_setCell];omega
   ·simp[intOf];omega
  ·obtain rfl:C=i:=by omega
   obtain⟨e0,e1,e2,W,X,Y⟩:=ai;have f3:d=sumI (fun s=>(cB T c (lps T N N.toNat) s:Int)) C:=W.trans (Znm fun s hs=>(a7.out s hs).2.2.2.1);have f4:h=sumI (fun s=>gU N T c s) C:=X.trans (Znm fun s hs=>(a7.out s hs).2.2.2.2.1);have f5:j=sumI (fun s=>gG N T c s) C:=Y.trans (Znm fun s hs=>(a7.out s hs).2.2.2.2.2);have p0:a.cell? ⟨w.heap.size+1,0,none⟩=some (.int .i64 k):=G.cell 0;have p1:a.cell? ⟨w.heap.size+1,1,none⟩=some (.int .i64 o):=G.cell 1;have p2:a.cell? ⟨w.heap.size+1,2,none⟩=some (.int .i64 q):=G.cell 2;have p3:a.cell? ⟨w.heap.size+1,3,none⟩=some (.int .i64 d):=G.cell 3;have p4:a.cell? ⟨w.heap.size+1,4,none⟩=some (.int .i64 h):=G.cell 4;have p5:a.cell? ⟨w.heap.size+1,5,none⟩=some (.int .i64 j):=G.cell 5;have r0:a.cell? ⟨w.heap.size,0,none⟩=some (.int .i64 0):=(A.cell 0).trans (by rw[<- z.out];rfl);have r1:a.cell? ⟨w.heap.size,1,none⟩=some (.int .i64 0):=(A.cell 1).trans (by rw[<- z.out];rfl);have r2:a.cell? ⟨w.heap.size,2,none⟩=some (.int .i64 0):=(A.cell 2).trans (by rw[<- z.out];rfl);have r3:a.cell? ⟨w.heap.size,3,none⟩=some (.int .i64 0):=(A.cell 3).trans (by rw[<- z.out];rfl);have r4:a.cell? ⟨w.heap.size,4,none⟩=some (.int .i64 0):=(A.cell 4).trans (by rw[<- z.out];rfl);have r5:a.cell? ⟨w.heap.size,5,none⟩=some (.int .i64 0):=(A.cell 5).trans (by rw[<- z.out];rfl);have rf:=A.frozen;have ah:=(((((A.set 0 (.int .i64 k)).set 1 (.int .i64 o)).set 2 (.int .i64 q)).set 3 (.int .i64 d)).set 4 (.int .i64 h)).set 5 (.int .i64 j);have b:w.heap.size<=w.heap.size:=zl;have Q:=(((((ae.setCell (p:=⟨w.heap.size,0,none⟩) b (.int .i64 k)).setCell (p:=⟨w.heap.size,1,none⟩) b (.int .i64 o)).setCell (p:=⟨w.heap.size,2,none⟩) b (.int .i64 q)).setCell (p:=⟨w.heap.size,3,none⟩) b (.int .i64 d)).setCell (p:=⟨w.heap.size,4,none⟩) b (.int .i64 h)).setCell (p:=⟨w.heap.size,5,none⟩) b (.int .i64 j);have ak:=z.out;have b6:((((((z6.set 0 (Value.int .i64 k)).set 1 (.int .i64 o)).set 2 (.int .i64 q)).set 3 (.int .i64 d)).set 4 (.int .i64 h)).set 5 (.int .i64 j))=[.int .i64 k,.int .i64 o,.int .i64 q,.int .i64 d,.int .i64 h,.int .i64 j]:=by rw[<- ak];rfl
   rw[b6]at ah;clear ak b6 e0 e1 e2 W X Y;obtain⟨bn,bo,bp,bi,R,bk,bl,bm,b7⟩:=zz9 A G H ah Q f3 f4 f5 x;clear A G H ah Q f3 f4 f5 x;go_wp2_with fail;refine Zbg rfl rfl bi.out Tryz.underlying93 rfl (by kernel_rfl) rfl ⟨⟨k,o,q,d,h,j,c,C,rfl,bc.out,bk.out,bl.out,bm.out⟩,R.out⟩
