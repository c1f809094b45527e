/- Walk: sew.placed: do all edges of pairs stand at places. -/
import Derived.Test.YtpbdcppaiafbgaaGreatFE
import Derived.Shelf.Slices.In.SortNone
import Derived.Shelf.Slices.CompactI
import Derived.Test.YtpbdcppaiafbgaaGreatTI
set_option maxRecDepth 100000
set_option maxHeartbeats 8000000
namespace Go.Mesh
def edgs(l:List P4):List (Int×Int):=l.flatMap fun p=>[p.1,p.2]
theorem edgs_snoc(l:List P4)(p:P4):edgs (l++[p])=edgs l++[p.1,p.2]:=by unfold edgs;rw[List.flatMap_append];rfl
theorem Zlq{l:List P4}{k:Nat}{p:P4}(h:l[k]? = some p):edgs (l.take (k+1))=edgs (l.take k)++[p.1,p.2]:=by
 obtain⟨a,rfl⟩:=zS.1 h;rw[zT a,edgs_snoc]
theorem Zxr{l:List P4}{k:Nat}{p:P4}(h:l[k]? = some p):∃r,edgs l=edgs (l.take k)++p.1::p.2::r:=by
 refine⟨edgs (l.drop (k+1)),?_⟩;have e:l=l.take (k+1)++l.drop (k+1):=(List.take_append_drop _ _).symm
 conv=>lhs;rw[e]
 unfold edgs;rw[List.flatMap_append];have:=Zlq h;unfold edgs at this;rw[this,List.append_assoc];rfl
def edn(p:P4)(j:Nat):Int×Int:=if j=0 then p.1 else p.2
theorem edn_cells(p:P4)(j:Nat)(hj:j<2):([Value.int .i64 p.1.1,.int .i64 p.1.2,.int .i64 p.2.1,.int .i64 p.2.2]:List Value)[j*2]? = some (.int .i64 (edn p j).1)/\([Value.int .i64 p.1.1,.int .i64 p.1.2,.int .i64 p.2.1,.int .i64 p.2.2]:List Value)[j*2+1]? = some (.int .i64 (edn p j).2):=by
 have:j=0\/j=1:=by omega
 rcases this with rfl|rfl<;>exact⟨rfl,rfl⟩
def Zaw(has:Int×Int->Bool)(l:List P4):Int:=if(edgs l).all has=true then if(edgs l).Nodup then 0 else 9 else 13
theorem Zvr{has:Int×Int->Bool}{l:List P4}{e:Int×Int}(he:e∈edgs l)(h:has e=false):Zaw has l=13:=by
 unfold Zaw;rw[if_neg];intro a;rw[List.all_eq_true]at a;rw[a e he]at h;cases h
theorem Zr2{has:Int×Int->Bool}{l:List P4}(h1:(edgs l).all has=true)(h:¬(edgs l).Nodup):Zaw has l=9:=by unfold Zaw;rw[if_pos h1,if_neg h]
theorem Zjw{has:Int×Int->Bool}{l:List P4}(h1:(edgs l).all has=true)(h:(edgs l).Nodup):Zaw has l=0:=by unfold Zaw;rw[if_pos h1,if_pos h]
end Go.Mesh
namespace Go.Proofs.YtpbdcppaiafbgaaGreat
open Go Go.RowKit Go.Words Go.Mesh
theorem Zr0{w:World}{B bm:Nat}{pv:Value}{l:List P4}(m:List ((Int×Int)×Int))(hm:Mp enc2 ok2 enc1 w bm m)(h:Sl 4 R4 w B pv l)(hB0:B<=w.heap.size)(hl:l.length<=1000000)(hok:∀e∈edgs l,ok2 e) :
  Calls Tryz.prog 99 #[.map (some bm),pv] w fun e w'=>e=.returned (.int .i64 (Zaw (fun e=>(Words.look m e).isSome) l))/\Below w.heap.size w w':=by
 obtain⟨A,de,rfl,d8⟩:=h.form;have d2:=hm.lt;have cp:=zr w.heap.size w;have ac:∀e∈edgs l,Words.look m e=none->Zaw (fun e=>(Words.look m e).isSome) l=13:=fun e he h1=>Zvr he (by rw[h1];rfl)
 have ao:(∀e∈edgs l,(Words.look m e).isSome=true)->¬(edgs l).Nodup->Zaw (fun e=>(Words.look m e).isSome) l=9:=fun h1=>Zr2 (List.all_eq_true.2 h1)
 have a6:(∀e∈edgs l,(Words.look m e).isSome=true)->(edgs l).Nodup->Zaw (fun e=>(Words.look m e).isSome) l=0:=fun h1=>Zjw (List.all_eq_true.2 h1)
 generalize Zaw (fun e=>(Words.look m e).isSome) l=z at *;obtain⟨cw,Hh,bg,be,ax,af⟩:=zz6 hm h hok ac ao a6;clear hm h hok ac ao a6;go_enter Tryz.func99,Tryz.ntmps99;go_wp2_with fail;go_loopw[18] (fun iv wr=>∃k:Nat,k<=l.length/\iv=.int .i64 (k:Int)/\(∀e∈edgs (l.take k),(Words.look m e).isSome=true)/\Below w.heap.size w wr) (fun iv _=>l.length-(intOf iv).toNat)
 case atStart=>exact⟨0,by omega,rfl,fun e he=>by simp[edgs]at he,cp⟩
 case round =>
  obtain⟨k,hk,rfl,I,J⟩:=hrel;obtain⟨M,d5⟩:∃M,M=wr:=⟨_,rfl⟩;subst d5;by_cases br:k<l.length
  ·obtain⟨p,hp⟩:∃p,l[k]? = some p:=⟨_,zG br⟩;obtain⟨b,o,rfl,hb,a1,a2,a3,a4⟩:=(Hh.out.below Zas (J.mono hB0)).p4_at hp;have bt:=cw.out.below J d2;have cs:=bt.lt;obtain⟨rest,d⟩:=Zxr hp;have a5:∀j,ok2 (edn p j):=fun j=>by
    refine bg.out _ ?_;rw[d];unfold edn
    split<;>simp
   have b6:∀j,edn p j∈edgs l:=fun j=>by
    rw[d];unfold edn
    split<;>simp
   have b7:(∀j,j<2->(Words.look m (edn p j)).isSome=true)->∀e∈edgs (l.take (k+1)),(Words.look m e).isSome=true:=fun h2 e he=>by
    rw[Zlq hp]at he;rcases zP.1 he with h3|h3
    ·exact I e h3
    ·rcases List.mem_cons.1 h3 with rfl|h3
     ·exact h2 0 (by omega)
     ·rw[zU.1 h3];exact h2 1 (by omega)
   have cq:b<M.heap.size:=by have:=J.size;omega
   have bv:=J.size;have an:=edn_cells p;obtain⟨⟨s,t⟩,v,x⟩:=p;simp only[]at a1 a2 a3 a4;have aj:=((zr M.heap.size M).alloc zl (.cells #[.int .i64 s,.int .i64 t,.int .i64 v,.int .i64 x] 41)).alloc (by simp) (.cells #[.int .i64 s,.int .i64 t,.int .i64 v,.int .i64 x] 39);have ak:=Bk.new' (n:=M.heap.size+1) (w:=M.alloc (.cells #[.int .i64 s,.int .i64 t,.int .i64 v,.int .i64 x] 41)) 39 [.int .i64 s,.int .i64 t,.int .i64 v,.int .i64 x] (by simp);obtain⟨cc,bw,ae,bb,bd,bi,ar,au,aw⟩:=zz9 bt I a5 b6 b7 d aj ak an;clear bt I a5 b6 b7 d aj ak an;go_wp2_with fail;go_loopw[28] (fun jv wz=>∃j:Nat,j<=2/\jv=.int .i64 (j:Int)/\(∀i,i<j->(Words.look m (edn ((s,t),v,x) i)).isSome=true)/\Bk wz (M.heap.size+1) 39 [.int .i64 s,.int .i64 t,.int .i64 v,.int .i64 x]/\Below M.heap.size M wz) (fun jv _=>2-(intOf jv).toNat)
   case atStart=>exact⟨0,by omega,rfl,fun i hi=>by omega,au.out,ar.out⟩
   case round =>
    obtain⟨j,hj,rfl,L,c,V⟩:=hrel;have ay:=J.trans (V.mono bv);by_cases R:j<2
    ·have cj:=aw.out j R;have c1:=(c.cell (j*2)).trans cj.1;have c2:=(c.cell (j*2+1)).trans cj.2;have G:=ae.out j;have Z:=bb.out j;have U:(Words.look m (edn ((s,t),v,x) j)).isSome=true->∀i,i<j+1->(Words.look m (edn ((s,t),v,x) i)).isSome=true:=fun h2 i hi=>by
      by_cases d1:i=j
      ·rw[d1];exact h2
      ·exact L i (by omega)
     generalize edn ((s,t),v,x) j=e at *;obtain⟨g,r⟩:=e;simp only[]at c1 c2;have T:=(cc.out.below V cs).alloc (.cells #[.int .i64 g,.int .i64 r] 39);have cz:=c.lt;have F:=c.alloc (.cells #[.int .i64 g,.int .i64 r] 39);have ah:=V.alloc (by have:=V.size;omega) (.cells #[.int .i64 g,.int .i64 r] 39);have D:=ay.alloc (by have:=ay.size;omega) (.cells #[.int .i64 g,.int .i64 r] 39);cases y:Words.look m (g,r)with
     | none =>
      have hz:=be.out _ Z y;obtain⟨b5,W,f,bz,bj,H,O,ai,Q,b2,C⟩:=zz11 L c G Z U T y hz F ah D;clear L c G Z U T y hz F ah D;go_wp2_with(at_lookup;refine Zeb _ rfl _ _ 118 rfl 39 3 keyE Tryz.underlying118 Zcp bm m rfl H.out (g,r) rfl f.out ?_;rw[O.out,show(((none:Option Int).map enc1).getD (.int .i64 0))=.int .i64 0 from rfl,show(none:Option Int).isSome=false from rfl]);go_ret;exact⟨Zb3 ai.out.symm,C.out⟩
     | some pl =>
      have c6:=U (by rw[y];rfl);obtain⟨b5,W,f,bz,bj,H,O,Q,b2,C,ce⟩:=zz11 L c G Z U T y F ah D c6;clear L c G Z U T y F ah D c6;go_wp2_with(at_lookup;refine Zeb _ rfl _ _ 118 rfl 39 3 keyE Tryz.underlying118 Zcp bm m rfl H.out (g,r) rfl f.out ?_;rw[O.out,show(((some pl:Option Int).map enc1).getD (.int .i64 0))=.int .i64 pl from rfl,show(some pl:Option Int).isSome=true from rfl]);exact⟨⟨j+1,by omega,by simp,ce.out,Q.out,b2.out⟩,by simp[intOf];omega⟩
    ·obtain rfl:j=2:=by omega
     have hn:=bd.out L;obtain⟨b5,W,cx⟩:=zz3 L c hn;clear L c hn;go_wp2_with fail;exact⟨⟨k+1,by omega,by simp,cx.out,ay⟩,by simp[intOf];omega⟩
  ·obtain rfl:k=l.length:=by omega
   rw[List.take_length]at I;have ao:=ax.out I;have a6:=af.out I;have bu:=Mp.new (enc:=enc2) (ok:=ok2) (ev:=fun _:Unit=>Value.bool true) M;have d0:=J.alloc J.size (.map #[] 0);have bv:=J.size;have d3:=@run_makeMap Tryz.prog;obtain⟨bw,ax,af,c3⟩:=zz4 I ao a6 bu;clear I ao a6 bu;go_wp2_with fail;clear d3;go_loopw[45] (fun iv wr=>∃(k:Nat) (S:List ((Int×Int)×Unit)),k<=l.length/\iv=.int .i64 (k:Int)/\(edgs (l.take k)).Nodup/\Mp enc2 ok2 (fun _:Unit=>Value.bool true) wr M.heap.size S/\(∀e,(Words.look S e).isSome=true↔e∈edgs (l.take k))/\Below w.heap.size w wr) (fun iv _=>l.length-(intOf iv).toNat)
   case atStart=>exact⟨0,[],by omega,rfl,List.nodup_nil,c3.out,fun e=>by simp[edgs,Words.look],d0⟩
   case round =>
    obtain⟨k,S,hk,rfl,a0,aa,hS,a9⟩:=hrel;obtain⟨w2,d6⟩:∃w2,w2=wr:=⟨_,rfl⟩;subst d6;have da:=aa.lt;by_cases br:k<l.length
    ·obtain⟨p,hp⟩:∃p,l[k]? = some p:=⟨_,zG br⟩;obtain⟨b,o,rfl,hb,a1,a2,a3,a4⟩:=(Hh.out.below Zas (a9.mono hB0)).p4_at hp;obtain⟨rest,d⟩:=Zxr hp;have a5:∀j,ok2 (edn p j):=fun j=>by
      refine bg.out _ ?_;rw[d];unfold edn
      split<;>simp
     have bp:∀j,j<2->edn p j∈edgs (l.take k)++[p.1,p.2].take j->¬(edgs l).Nodup:=fun j hj he hn=>by
      rw[d]at hn;have R:j=0\/j=1:=by omega
      rcases R with rfl|rfl
      ·simp only[List.take_zero,List.append_nil]at he;exact(List.nodup_append.1 hn).2.2 _ he _ (by simp[edn]) rfl
      ·simp only[List.take_succ_cons,List.take_zero]at he;rcases zP.1 he with h1|h1
       ·exact(List.nodup_append.1 hn).2.2 _ h1 _ (by simp[edn]) rfl
       ·have:=(List.nodup_cons.1 (List.nodup_append.1 hn).2.1).1;rw[zU.1 h1 |>.symm]at this;exact this (by simp[edn])
     have b8:∀j,j<2->edgs (l.take k)++[p.1,p.2].take (j+1)=(edgs (l.take k)++[p.1,p.2].take j)++[edn p j]:=fun j hj=>by
      have R:j=0\/j=1:=by omega
      rcases R with rfl|rfl<;>simp[edn]
     have c7:edgs (l.take (k+1))=edgs (l.take k)++[p.1,p.2].take 2:=Zlq hp;have cq:b<w2.heap.size:=by have:=a9.size;omega
     have db:=a9.size;have an:=edn_cells p;generalize hE:edgs (l.take k)=E at *;have bn:E++[p.1,p.2].take 0=E:=by simp
     obtain⟨⟨s,t⟩,v,x⟩:=p;simp only[]at a1 a2 a3 a4;have aj:=(a9.alloc a9.size (.cells #[.int .i64 s,.int .i64 t,.int .i64 v,.int .i64 x] 41)).alloc (by simp;omega) (.cells #[.int .i64 s,.int .i64 t,.int .i64 v,.int .i64 x] 39);have ak:=Bk.new' (n:=w2.heap.size+1) (w:=w2.alloc (.cells #[.int .i64 s,.int .i64 t,.int .i64 v,.int .i64 x] 41)) 39 [.int .i64 s,.int .i64 t,.int .i64 v,.int .i64 x] (by simp);have c5:=(aa.alloc (.cells #[.int .i64 s,.int .i64 t,.int .i64 v,.int .i64 x] 41)).alloc (.cells #[.int .i64 s,.int .i64 t,.int .i64 v,.int .i64 x] 39);rw[<- bn]at a0 hS;obtain⟨cb,bc,c4,ae,bx,bh,cf,bi,ar,au,aw,ca⟩:=zz12 aa a0 hS a5 bp b8 c7 d aj ak an c5;obtain⟨dc,d7⟩:=zz2 hE bn;clear aa a0 hS a5 bp b8 c7 d aj ak an c5 hE bn;go_wp2_with fail;go_loopw[55] (fun jv wz=>∃(j:Nat) (S:List ((Int×Int)×Unit)),j<=2/\jv=.int .i64 (j:Int)/\(E++[(s,t),(v,x)].take j).Nodup/\Mp enc2 ok2 (fun _:Unit=>Value.bool true) wz M.heap.size S/\(∀e,(Words.look S e).isSome=true↔e∈E++[(s,t),(v,x)].take j)/\Bk wz (w2.heap.size+1) 39 [.int .i64 s,.int .i64 t,.int .i64 v,.int .i64 x]/\Below w.heap.size w wz) (fun jv _=>2-(intOf jv).toNat)
     case atStart=>exact⟨0,S,by omega,rfl,bc.out,ca.out,c4.out,au.out,ar.out⟩
     case round =>
      obtain⟨j,S3,hj,rfl,K,Y,N,c,V⟩:=hrel;by_cases R:j<2
      ·have cj:=aw.out j R;have c1:=(c.cell (j*2)).trans cj.1;have c2:=(c.cell (j*2+1)).trans cj.2;have G:=ae.out j;have a8:=bx.out j R;have am:=bh.out j R;rw[<- N]at a8;generalize edn ((s,t),v,x) j=e at *;generalize E++[(s,t),(v,x)].take j=E3 at *;obtain⟨g,r⟩:=e;simp only[]at c1 c2;have T:=Y.alloc (.cells #[.int .i64 g,.int .i64 r] 39);have cz:=c.lt;have F:=c.alloc (.cells #[.int .i64 g,.int .i64 r] 39);have D:=V.alloc V.size (.cells #[.int .i64 g,.int .i64 r] 39);cases y:Words.look S3 (g,r)with
       | some u =>
        have hz:=ax.out (a8 (by rw[y];rfl));obtain⟨b4,av,ba,W,f,c9,cd,H,O,ai,Q,C⟩:=zz12 K Y N c G a8 am T y hz F D;clear K Y N c G a8 am T y hz F D;go_wp2_with(at_lookup;refine zanq _ rfl _ _ 103 rfl 39 4 keyE Tryz.underlying103 Zbq M.heap.size S3 rfl H.out (g,r) rfl f.out ?_;rw[O.out,show(((some u:Option Unit).map (fun _:Unit=>Value.bool true)).getD (.bool false))=.bool true from rfl]);go_ret;exact⟨Zb3 ai.out.symm,C.out⟩
       | none =>
        have ac:(g,r)∉E3:=fun h9=>by
         have:=(N (g,r)).2 h9;rw[y]at this;cases this
        have P:(E3++[(g,r)]).Nodup:=List.nodup_append.2 ⟨K,by simp,fun a ha b hb=>by
         rw[zU.1 hb];exact fun h9=>ac (h9 ▸ ha)⟩
        have X:∀e,(Words.look (Words.put S3 (g,r) ()) e).isSome=true↔e∈E3++[(g,r)]:=fun e=>by
         rw[look_put];by_cases h9:(g,r)=e
         ·rw[if_pos h9];simp[h9]
         ·rw[if_neg h9,N e,zP,zU];exact⟨.inl,fun h8=>h8.resolve_right fun h7=>h9 h7.symm⟩
        rw[<- am]at P X;have d4:some (w2.heap.size+1)≠some M.heap.size:=fun h9=>by injection h9;omega
        obtain⟨b4,av,ba,W,f,c9,cd,H,O,Q,C,be⟩:=zz12 K Y N c G a8 am T y F D ac;obtain⟨ad,aq⟩:=zz2 P X;clear K Y N c G a8 am T y F D ac P X;go_wp2_with(first
         | (at_lookup;refine zanq _ rfl _ _ 103 rfl 39 4 keyE Tryz.underlying103 Zbq M.heap.size S3 rfl H.out (g,r) rfl f.out ?_;rw[O.out,show(((none:Option Unit).map (fun _:Unit=>Value.bool true)).getD (.bool false))=.bool false from rfl])
         | (at_mapUpdate;refine zbdq _ rfl _ _ _ 103 rfl 39 4 keyE Tryz.underlying103 M.heap.size S3 rfl H.out (g,r) rfl f.out () rfl ?_;intro w4 bs bq ct;obtain⟨c0,b3⟩:=zz2 bs bq;clear bs bq;clear ct))
        exact⟨⟨j+1,_,by omega,by simp,ad.out,c0.out,aq.out,Q.out.grown b3.out d4,C.out.grown b3.out C.out.size (fun q hq=>by cases hq;exact bv)⟩,by simp[intOf];omega⟩
      ·obtain rfl:j=2:=by omega
       have P:=K;have X:=N;have ht:=cf.out;rw[<- ht]at P X;obtain⟨b4,av,ba,W,ad,aq,dd⟩:=zz7 K Y N c P X ht;clear K Y N c P X ht;go_wp2_with fail;exact⟨⟨k+1,S3,by omega,by simp,ad.out,av.out,aq.out,V⟩,by simp[intOf];omega⟩
    ·obtain rfl:k=l.length:=by omega
     rw[List.take_length]at a0;have hz:=af.out a0;obtain⟨bc,cb,c4,ai⟩:=zz4 a0 aa hS hz;clear a0 aa hS hz;go_wp2_with fail;go_ret;exact⟨Zb3 ai.out.symm,a9⟩
end Go.Proofs.YtpbdcppaiafbgaaGreat
namespace Go.Words
open Go Go.RowKit Go.Mesh Go.Sort Go.Shelf
end Go.Words
namespace Go.Proofs.YtpbdcppaiafbgaaGreat
open Go Go.RowKit Go.Words Go.Mesh
attribute [local go_sem] Oper.semAt_some
