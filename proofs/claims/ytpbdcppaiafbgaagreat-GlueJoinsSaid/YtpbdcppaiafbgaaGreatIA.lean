/- Walks: cut.named, a cutter, its add and idle. Walks. -/
import Derived.Deep.Cut
import Derived.Test.YtpbdcppaiafbgaaGreatHP
import Derived.Test.YtpbdcppaiafbgaaGreatTS
import Derived.Shelf.SlSortCmp.Whole1
import Derived.Shelf.Slices.Turned
set_option maxRecDepth 100000
set_option maxHeartbeats 8000000
namespace Go.Mesh
def addC(T:List T3)(L:List (Int×Int))(e:Int×Int):Int :=
 if oi (facing T e)<0/\oi (facing T (e.2,e.1))<0 then 8 else if oi (facing T e)<0\/oi (facing T (e.2,e.1))<0 then 13 else if nm e∈L.map nm then 9 else 0
theorem oi_none{o:Option Nat}(h:¬oi o<0):∃c,o=some c:=by
 cases o with
 | none=>exact absurd (by decide) h
 | some c=>exact⟨c,rfl⟩
theorem Zqn(L:List (Int×Int))(e:Int×Int)(v:Int):Zbr (L++[e]) v=Zbr L v+if e.1=v\/e.2=v then 1 else 0:=by
 unfold Zbr;rw[List.countP_append,List.countP_cons,List.countP_nil];by_cases h:e.1=v\/e.2=v
 ·rw[if_pos h,if_pos (by simpa using h)]
 ·rw[if_neg h,if_neg (by simpa using h)]
theorem Zgm(L:List (Int×Int))(v:Int):Zbr L v<=L.length:=List.countP_le_length
end Go.Mesh
namespace Go.Proofs.YtpbdcppaiafbgaaGreat
open Go Go.RowKit Go.Words Go.Mesh
theorem ret_e2{a b x y:Int}(h1:x=a)(h2:y=b):Ending.returned (.agg #[.int .i64 x,.int .i64 y])=Ending.returned (.agg #[.int .i64 a,.int .i64 b]):=by rw[h1,h2]
theorem Zok(e:Int×Int)(w:World):Calls Tryz.prog 105 #[enc2 e] w fun r w'=>r=.returned (enc2 (nm e))/\Below w.heap.size w w':=by
 obtain⟨a,b⟩:=e
 change Calls Tryz.prog 105 #[.agg #[.int .i64 a,.int .i64 b]] w fun r w'=>r=.returned (.agg #[.int .i64 (min a b),.int .i64 (max a b)])/\_
 go_enter Tryz.func105,Tryz.ntmps105;go_wp2;all_goals exact Zbg rfl rfl (Bk.new' (n:=w.heap.size+1) (w:=w.alloc (.cells #[.int .i64 a,.int .i64 b] 39)) 39 _ (by simp)) Tryz.underlying39 rfl (by kernel_rfl) rfl ⟨ret_e2 (by omega) (by omega),((zr w.heap.size w).alloc zl _).alloc (by simp) _⟩
structure Ctr (w : World) (B g bc be : Nat) (tv : Value) (N : Int) (T : List T3) (L : List (Int×Int)) (n : Int) (sv wv : Value) (X : List T3) (O : List Int) : Prop where
 blk:Bk w g 106 [tv,.map (some bc),.map (some be),.int .i64 n,sv,wv]
 tab:Tab w B tv N T
 cuts:∃S:List ((Int×Int)×Unit),Mp enc2 ok2 (fun _:Unit=>.bool true) w bc S/\∀e,(Words.look S e).isSome=true↔e∈L.map nm
 ends:∃E:List (Int×Int),Mp enc1 I64 enc1 w be E/\∀v,(Words.look E v).getD 0=(Zbr L v:Nat)
 sow:w.ownsRow B 57 3 sv X.length (Zal X)
 wow:w.ownsRow B 3 1 wv O.length (ivals O)
 le:B<=g/\B<=bc/\B<=be
 ne:bc≠be
theorem Ctr.below{w w':World}{B g bc be:Nat}{tv sv wv:Value}{N n:Int}{T X:List T3}{L:List (Int×Int)}{O:List Int}(h:Ctr w B g bc be tv N T L n sv wv X O)(hb:Below w.heap.size w w'):Ctr w' B g bc be tv N T L n sv wv X O where
 blk:=h.blk.below hb h.blk.lt
 tab:=h.tab.below hb h.tab.le
 cuts:=by obtain⟨S,a,b⟩:=h.cuts;exact⟨S,a.below hb a.lt,b⟩
 ends:=by obtain⟨E,a,b⟩:=h.ends;exact⟨E,a.below hb a.lt,b⟩
 sow:=zafq h.sow hb zl
 wow:=zafq h.wow hb zl
 le:=h.le
 ne:=h.ne
theorem Ziw{E:List (Int×Int)}{v:Int}{n:Int}(h:(Words.look E v).getD 0=n):((Words.look E v).map enc1).getD (.int .i64 0)=.int .i64 n:=by
 rw[<- h];cases Words.look E v<;>rfl
theorem ends_put{E:List (Int×Int)}{L:List (Int×Int)}{a b:Int}(h:∀v,(Words.look E v).getD 0=(Zbr L v:Nat)):∀v,(Words.look (Words.put (Words.put E a ((Zbr L a:Nat)+1)) b ((Zbr L b:Nat)+1)) v).getD 0=(Zbr (L++[(a,b)]) v:Nat):=fun v=>by
 rw[look_put,look_put,Zqn];by_cases c:b=v
 ·subst c;rw[if_pos rfl,if_pos (.inr rfl)];simp
 ·by_cases d:a=v
  ·subst d;rw[if_neg c,if_pos rfl,if_pos (.inl rfl)];simp
  ·rw[if_neg c,if_neg d,if_neg (by simp[c,d]),h v];simp
theorem cuts_put{S:List ((Int×Int)×Unit)}{L:List (Int×Int)}{e:Int×Int}(h:∀x,(Words.look S x).isSome=true↔x∈L.map nm):∀x,(Words.look (Words.put S (nm e) ()) x).isSome=true↔x∈(L++[e]).map nm:=fun x=>by
 rw[look_put,List.map_append,zP,List.map_cons,List.map_nil,zU];by_cases a:nm e=x
 ·rw[if_pos a];simp[a]
 ·rw[if_neg a,h x];exact⟨.inl,fun h8=>h8.resolve_right fun h7=>a h7.symm⟩
theorem Zsp{w:World}{g b:Nat}{t:TypeId}{cs:List Value}{κ α:Type}{enc:κ->Value}{ok:κ->Prop}{ev:α->Value}{l:List (κ×α)}(h:Bk w g t cs)(hm:Mp enc ok ev w b l):g≠b:=fun e=>by
 subst e;obtain⟨d,c,a,_⟩:=hm.block;unfold Bk at h;rw[a]at h;cases h
theorem Zdl{w:World}{base size n:Nat}{e:TypeId}{v:Value}{xs:List Value}(h:w.ownsRow base e size v n xs):w.drew.ownsRow base e size v n xs:=zafq h (zr _ _).drew zl
theorem Zsz{S:List ((Int×Int)×Unit)}{x:Int×Int}:((Words.look S x).map fun _:Unit=>Value.bool true).getD (.bool false)=.bool (Words.look S x).isSome:=by
 cases Words.look S x<;>rfl
def AddEnd(w w':World)(B g bc be:Nat)(tv:Value)(N:Int)(T:List T3)(L:List (Int×Int))(e:Int×Int)(n:Int)(sv wv:Value)(X:List T3)(O:List Int):Prop :=
 Below B w w'/\Ctr w' B g bc be tv N T (if addC T L e=0 then L++[e]else L) n sv wv X O
theorem Zou{w w':World}{B g bc be:Nat}{tv sv wv:Value}{N n:Int}{T X:List T3}{L:List (Int×Int)}{e:Int×Int}{O:List Int}(hb:Below B w w')(h:Ctr w' B g bc be tv N T L n sv wv X O)(hc:addC T L e≠0):AddEnd w w' B g bc be tv N T L e n sv wv X O:=⟨hb,by rw[if_neg hc];exact h⟩
theorem add_calls{w:World}{B g bc be:Nat}{tv sv wv:Value}{N n:Int}{T X:List T3}{L:List (Int×Int)}{O:List Int}(h:Ctr w B g bc be tv N T L n sv wv X O)(hs:Surf N T)(e:Int×Int)(he:ok2 e)(hL:L.length<=1000) :
  Calls Tryz.prog 63 #[.pointer (some ⟨g,0,none⟩),enc2 e] w fun r w'=>r=.returned (.int .i64 (addC T L e))/\AddEnd w w' B g bc be tv N T L e n sv wv X O:=by
 obtain⟨a,b⟩:=e;have a0:=(zr w.heap.size w).alloc zl (.cells #[.int .i64 a,.int .i64 b] 39);have af:=Bk.new w 39 [.int .i64 a,.int .i64 b];have h1:=h.below a0;have ef:=h.blk.lt;have cn:=fun wz (hz:Below w.heap.size w wz)=>Zce ((h.below hz).tab) a b he.1 he.2
 have co:=fun wz (hz:Below w.heap.size w wz)=>Zce ((h.below hz).tab) b a he.2 he.1
 obtain⟨tg,dr⟩:∃tg,tv=.pointer tg:=by
  obtain⟨g9,_,_,_,_,_,s,_⟩:=h.tab;exact⟨_,s⟩
 subst dr;have ay:w.heap.size<(w.alloc (.cells #[.int .i64 a,.int .i64 b] 39)).heap.size:=by simp
 have e9:g≠bc/\g≠be/\bc<w.heap.size/\be<w.heap.size:=by
  obtain⟨S0,cj,_⟩:=h.cuts;obtain⟨E0,cg,_⟩:=h.ends;exact⟨Zsp h.blk cj,Zsp h.blk cg,cj.lt,cg.lt⟩
 change Calls Tryz.prog 63 #[.pointer (some ⟨g,0,none⟩),.agg #[.int .i64 a,.int .i64 b]] w _
 obtain⟨v,bj⟩:∃v,v=w.alloc (.cells #[.int .i64 a,.int .i64 b] 39):=⟨_,rfl⟩;rw[<- bj]at a0 af h1 ay;have e0:v.cell? ⟨w.heap.size,0,none⟩=some (.int .i64 a):=af.cell 0;have e1:v.cell? ⟨w.heap.size,1,none⟩=some (.int .i64 b):=af.cell 1;have c0:v.cell? ⟨g,0,none⟩=some (.pointer tg):=h1.blk.cell 0;obtain⟨Hh,d7,d1,cy,cz,d8⟩:=zz6 h h1 af cn co he;clear h h1 af cn co he;go_enter Tryz.func63,Tryz.ntmps63;go_upto_region 1 with fail;rw[<- bj];clear bj;go_cut [5,6] (fun s5 s6 wx=>s5=.int .i64 (oi (facing T (a,b)))/\s6=.int .i64 (oi (facing T (b,a)))/\Below v.heap.size v wx)
 case first =>
  refine Canon.wp_region_tree [3,4,9,11,13] (fun b=>b=g\/b=w.heap.size) (.seg [0,4,6,10,11,12,13,14] (.alt 1 (.seg [2,3] (.alt 5 (.alt 7 (.seg [8,9] (.alt 15 (.seg [16,17] .fin) .no)) .no) (.alt 7 (.seg [8,9] (.alt 5 (.alt 15 (.seg [16,17] .fin) .no) .no)) .no))) (.alt 7 (.seg [8,9] (.alt 1 (.seg [2,3] (.alt 5 (.alt 15 (.seg [16,17] .fin) .no) .no)) .no)) .no))) mixed (by kernel_rfl) ?_;have bb:=cy.out v.drew a0.drew;have bd:=fun wz (hz:Below v.heap.size v wz)=>cz.out wz (a0.trans (hz.mono a0.size))
  obtain⟨a4,a5⟩:=zz2 bb bd;clear bb bd;refine Canon.tr_seg ?_;simp only[zm,zg];go_wp2_with fail;refine Canon.tr_to (Canon.tr_alt ?_ (Canon.tr_one ?_))
  ·simp only[zg];go_wp2_with fail;refine Canon.tr_end (fun _ _=>rfl) (Canon.tr_seg ?_);simp only[zm,zg];go_wp2_with fail;refine Canon.tr_to (Canon.tr_alt ?_ (Canon.tr_one ?_))
   ·simp only[zg];go_wp2_with fail;refine a4.out.mono ?_;rintro e w2 ⟨rfl,ae⟩;have i:=(zr v.heap.size v).drew.trans ae;go_wp2_with fail;refine Canon.tr_end (fun b hb=>i.block _ (by rcases hb with rfl|rfl<;>omega)) (Canon.tr_one ?_);simp only[zg];go_wp2_with fail;refine Canon.tr_end (fun b hb=>i.block _ (by rcases hb with rfl|rfl<;>omega)) (Canon.tr_seg ?_);simp only[zm,zg];have eb:=(i.cell (p:=⟨g,0,none⟩) (by show g<_;omega)).trans c0;go_wp2_with fail;refine Canon.tr_to (Canon.tr_one ?_);simp only[zg];go_wp2_with fail;refine(a5.out w2 i).mono ?_;rintro e w3 ⟨rfl,k⟩;have c:=i.trans (k.mono i.size);go_wp2_with fail;refine Canon.tr_end (fun b hb=>c.block _ (by rcases hb with rfl|rfl<;>omega)) (Canon.tr_seg ?_);simp only[zm,zg];go_wp2_with fail;refine Canon.tr_to (Canon.tr_fin (by rfl) (zF ⟨.inl ⟨_,rfl,.inl rfl,by rw[zw,c0];rfl⟩,zF ⟨.inl ⟨_,rfl,.inr rfl,by rw[zw,e0];rfl⟩,zF ⟨.inl ⟨_,rfl,.inl rfl,by rw[zw,c0];rfl⟩,zF ⟨.inl ⟨_,rfl,.inr rfl,by rw[zw,e1];rfl⟩,zF ⟨.inl ⟨_,rfl,.inr rfl,by rw[zw,e0];rfl⟩,fun _ h=>by cases h⟩⟩⟩⟩⟩) ?_);go_wp2_with fail;go_meet;exact⟨rfl,rfl,c⟩
   ·simp only[zg];go_wp2_with fail;refine Canon.tr_end (fun _ _=>rfl) (Canon.tr_seg ?_);simp only[zm,zg];go_wp2_with fail;refine Canon.tr_to (Canon.tr_one ?_);simp only[zg];go_wp2_with fail;refine a4.out.mono ?_;rintro e w2 ⟨rfl,ae⟩;have i:=(zr v.heap.size v).drew.trans ae;go_wp2_with fail;refine Canon.tr_end (fun b hb=>i.block _ (by rcases hb with rfl|rfl<;>omega)) (Canon.tr_one ?_);simp only[zg];go_wp2_with fail;refine(a5.out w2 i).mono ?_;rintro e w3 ⟨rfl,k⟩;have c:=i.trans (k.mono i.size);go_wp2_with fail;refine Canon.tr_end (fun b hb=>c.block _ (by rcases hb with rfl|rfl<;>omega)) (Canon.tr_seg ?_);simp only[zm,zg];go_wp2_with fail;refine Canon.tr_to (Canon.tr_fin (by rfl) (zF ⟨.inl ⟨_,rfl,.inl rfl,by rw[zw,c0];rfl⟩,zF ⟨.inl ⟨_,rfl,.inr rfl,by rw[zw,e0];rfl⟩,zF ⟨.inl ⟨_,rfl,.inl rfl,by rw[zw,c0];rfl⟩,zF ⟨.inl ⟨_,rfl,.inr rfl,by rw[zw,e1];rfl⟩,zF ⟨.inl ⟨_,rfl,.inr rfl,by rw[zw,e0];rfl⟩,fun _ h=>by cases h⟩⟩⟩⟩⟩) ?_);go_wp2_with fail;go_meet;exact⟨rfl,rfl,c⟩
  ·simp only[zg];go_wp2_with fail;refine Canon.tr_end (fun _ _=>rfl) (Canon.tr_seg ?_);simp only[zm,zg];go_wp2_with fail;refine Canon.tr_to (Canon.tr_one ?_);simp only[zg];go_wp2_with fail;refine Canon.tr_end (fun _ _=>rfl) (Canon.tr_seg ?_);simp only[zm,zg];go_wp2_with fail;refine Canon.tr_to (Canon.tr_one ?_);simp only[zg];go_wp2_with fail;refine a4.out.mono ?_;rintro e w2 ⟨rfl,ae⟩;have i:=(zr v.heap.size v).drew.trans ae;go_wp2_with fail;refine Canon.tr_end (fun b hb=>i.block _ (by rcases hb with rfl|rfl<;>omega)) (Canon.tr_one ?_);simp only[zg];go_wp2_with fail;refine(a5.out w2 i).mono ?_;rintro e w3 ⟨rfl,k⟩;have c:=i.trans (k.mono i.size);go_wp2_with fail;refine Canon.tr_end (fun b hb=>c.block _ (by rcases hb with rfl|rfl<;>omega)) (Canon.tr_seg ?_);simp only[zm,zg];go_wp2_with fail;refine Canon.tr_to (Canon.tr_fin (by rfl) (zF ⟨.inl ⟨_,rfl,.inl rfl,by rw[zw,c0];rfl⟩,zF ⟨.inl ⟨_,rfl,.inr rfl,by rw[zw,e0];rfl⟩,zF ⟨.inl ⟨_,rfl,.inl rfl,by rw[zw,c0];rfl⟩,zF ⟨.inl ⟨_,rfl,.inr rfl,by rw[zw,e1];rfl⟩,zF ⟨.inl ⟨_,rfl,.inr rfl,by rw[zw,e0];rfl⟩,fun _ h=>by cases h⟩⟩⟩⟩⟩) ?_);go_wp2_with fail;go_meet;exact⟨rfl,rfl,c⟩
 case rest =>
  obtain⟨rfl,rfl,a1⟩:=hcut;obtain⟨t,ds⟩:∃t,t=wc:=⟨_,rfl⟩;subst ds;have F:=d7.out.below a1;have d5:=a0.trans (a1.mono (show w.heap.size<=v.heap.size by omega));have dq:=Hh.out.le;have ej:=a1.size;have av:Below B w t:=d5.mono (by omega);have aq:=(a1.cell (p:=⟨w.heap.size,0,none⟩) ay).trans e0;have cd:=(a1.cell (p:=⟨w.heap.size,1,none⟩) ay).trans e1;have ee:g<t.heap.size:=by omega
  have d0:t.cell? ⟨g,1,none⟩=some (.map (some bc)):=F.blk.cell 1;have d2:t.cell? ⟨g,2,none⟩=some (.map (some be)):=F.blk.cell 2;have j:=d8.out;have cr:oi (facing T (a,b))<0\/a≠b:=by
   by_cases s:oi (facing T (a,b))<0
   ·exact .inl s
   ·obtain⟨c9,dk⟩:=oi_none s;obtain⟨h8,h7⟩:=zarq dk;right;have:=hs.loop3 h8;rw[show vt T (nx c9)=a from congrArg Prod.fst h7,show vt T (pv c9)=b from congrArg Prod.snd h7]at this;exact this
  have f:addC T L (a,b)=(if oi (facing T (a,b))<0/\oi (facing T (b,a))<0 then 8 else if oi (facing T (a,b))<0\/oi (facing T (b,a))<0 then 13 else if nm (a,b)∈L.map nm then 9 else 0):=rfl;generalize oi (facing T (a,b))=x at *;generalize oi (facing T (b,a))=y at *;by_cases hx:x<0
  ·by_cases hy:y<0
   ·rw[if_pos ⟨hx,hy⟩]at f;obtain⟨K,d,l⟩:=zz3 F f j;clear F f j;go_wp2_with fail;all_goals try omega
    go_ret;exact⟨by rw[d.out];rfl,Zou av K.out (by rw[d.out];decide)⟩
   ·rw[if_neg (fun h=>hy h.2),if_pos (.inl hx)]at f;obtain⟨K,d,l⟩:=zz3 F f j;clear F f j;go_wp2_with fail;all_goals try omega
    go_ret;exact⟨by rw[d.out];rfl,Zou av K.out (by rw[d.out];decide)⟩
  by_cases hy:y<0
  ·rw[if_neg (fun h=>hx h.1),if_pos (.inr hy)]at f;obtain⟨K,d,l⟩:=zz3 F f j;clear F f j;go_wp2_with fail;all_goals try omega
   go_ret;exact⟨by rw[d.out];rfl,Zou av K.out (by rw[d.out];decide)⟩
  rw[if_neg (fun h=>hx h.1),if_neg (fun h=>h.elim hx hy)]at f;have dg:a≠b:=cr.resolve_left hx;clear cr;obtain⟨S,b7,b8⟩:=F.cuts;obtain⟨E,b4,C⟩:=F.ends;have a9:=fun wz=>Zok (a,b) wz
  have ao:ok2 (nm (a,b)):=⟨by unfold nm I64;have:=j.1;have:=j.2;unfold I64 at *;simp only[];omega,by unfold nm I64;have:=j.1;have:=j.2;unfold I64 at *;simp only[];omega⟩;have ba:=b7.lt;have dl:=b4.lt;obtain⟨q,A⟩:∃q,nm (a,b)=q:=⟨_,rfl⟩;obtain⟨W,Y⟩:=q;rw[A]at a9 ao f
  change ∀wz,Calls _ _ #[.agg #[.int .i64 a,.int .i64 b]] wz (fun r w'=>r=.returned (.agg #[.int .i64 W,.int .i64 Y])/\_)at a9
  have o:(Words.look S (W,Y)).isSome=true↔(W,Y)∈L.map nm:=b8 _;obtain⟨K,l,aj,cv,ct,b0,H,I,d9,a6,d⟩:=zz11 F j b7 b8 b4 C a9 ao A o f;clear F j b7 b8 b4 C a9 ao A o f;go_upto_region 6 with fail;all_goals try omega
  go_cut [37] (fun s37 wx=>s37=.bool (Words.look S (W,Y)).isSome/\Below t.heap.size t wx)
  case first =>
   refine Canon.wp_region_tree [3,4] (fun b=>b=g\/b=w.heap.size) (.seg [0,4] (.alt 1 (.seg [2,3] (.alt 5 (.alt 6 (.seg [7] .fin) .no) .no)) (.alt 5 (.alt 1 (.seg [2,3] (.alt 6 (.seg [7] .fin) .no)) .no) .no))) mixed (by kernel_rfl) ?_;refine Canon.tr_seg ?_;simp only[zm,zg];go_wp2_with fail;refine Canon.tr_to (Canon.tr_alt ?_ (Canon.tr_one ?_))
   ·simp only[zg];go_wp2_with fail;refine Canon.tr_end (fun _ _=>rfl) (Canon.tr_seg ?_);simp only[zm,zg];go_wp2_with fail;refine Canon.tr_to (Canon.tr_one ?_);simp only[zg];go_wp2_with fail;refine(H.out t.drew).mono ?_;rintro e w3 ⟨rfl,k⟩;have c:=(zr t.heap.size t).drew.trans k;go_wp2_with fail;refine Canon.tr_end (fun b hb=>c.block _ (by rcases hb with rfl|rfl<;>omega)) (Canon.tr_one ?_);simp only[zg];refine zanq _ rfl _ _ 103 rfl 39 4 keyE Tryz.underlying103 Zbq bc S rfl (aj.out.below c ba) (W,Y) rfl I.out ?_;rw[Zsz];go_wp2_with fail;refine Canon.tr_end (fun b hb=>c.block _ (by rcases hb with rfl|rfl<;>omega)) (Canon.tr_seg ?_);simp only[zm,zg];go_wp2_with fail;refine Canon.tr_to (Canon.tr_fin (by rfl) (zF ⟨.inl ⟨_,rfl,.inl rfl,by rw[zw,d0];rfl⟩,zF ⟨.inl ⟨_,rfl,.inr rfl,by rw[zw,aq];rfl⟩,fun _ h=>by cases h⟩⟩) ?_);go_wp2_with fail;go_meet;exact⟨rfl,c⟩
   ·simp only[zg];go_wp2_with fail;refine(H.out t.drew).mono ?_;rintro e w3 ⟨rfl,k⟩;have c:=(zr t.heap.size t).drew.trans k;go_wp2_with fail;refine Canon.tr_end (fun b hb=>c.block _ (by rcases hb with rfl|rfl<;>omega)) (Canon.tr_one ?_);simp only[zg];go_wp2_with fail;refine Canon.tr_end (fun b hb=>c.block _ (by rcases hb with rfl|rfl<;>omega)) (Canon.tr_seg ?_);simp only[zm,zg];have ec:=(c.cell (p:=⟨g,1,none⟩) (by show g<_;omega)).trans d0;go_wp2_with fail;refine Canon.tr_to (Canon.tr_one ?_);simp only[zg];refine zanq _ rfl _ _ 103 rfl 39 4 keyE Tryz.underlying103 Zbq bc S rfl (aj.out.below c ba) (W,Y) rfl I.out ?_;rw[Zsz];go_wp2_with fail;refine Canon.tr_end (fun b hb=>c.block _ (by rcases hb with rfl|rfl<;>omega)) (Canon.tr_seg ?_);simp only[zm,zg];go_wp2_with fail;refine Canon.tr_to (Canon.tr_fin (by rfl) (zF ⟨.inl ⟨_,rfl,.inl rfl,by rw[zw,d0];rfl⟩,zF ⟨.inl ⟨_,rfl,.inr rfl,by rw[zw,aq];rfl⟩,fun _ h=>by cases h⟩⟩) ?_);go_wp2_with fail;go_meet;exact⟨rfl,c⟩
  case rest =>
   obtain⟨rfl,D⟩:=hcut;obtain⟨G,dt⟩:∃G,G=wc:=⟨_,rfl⟩;subst dt;have eh:=D.size;have M:=K.out.below D;have J:=M.ne;have b9:=av.trans (D.mono (show B<=t.heap.size by omega));have b2:=(D.cell (p:=⟨w.heap.size,0,none⟩) (show w.heap.size<t.heap.size by omega)).trans aq;have db:=(D.cell (p:=⟨w.heap.size,1,none⟩) (show w.heap.size<t.heap.size by omega)).trans cd;have f1:G.cell? ⟨g,1,none⟩=some (.map (some bc)):=M.blk.cell 1;have f2:G.cell? ⟨g,2,none⟩=some (.map (some be)):=M.blk.cell 2;have au:=aj.out.below D ba;have ar:=ct.out.below D dl;have o:=a6.out;have f:=d.out;clear aq cd d0 d2 e0 e1 c0;cases V:(Words.look S (W,Y)).isSome with
   | true =>
    rw[if_pos (o.1 V)]at f;obtain⟨ah,d,a6,a3,b1⟩:=zz5 M f o au ar;clear M f o au ar;go_wp2_with fail;go_ret;exact⟨by rw[d.out];rfl,Zou b9 ah.out (by rw[d.out];decide)⟩
   | false =>
    rw[if_neg (fun s=>by rw[o.2 s]at V;cases V)]at f;have cp:=(d1.out.below a1 ay).below D (show w.heap.size<t.heap.size by omega);obtain⟨ah,d,a6,a3,b1,dx,d3⟩:=zz7 M f o au ar V cp;clear M f o au ar V cp;go_upto_region 8 with fail;go_cut [] (fun wx=>∃wy,Below G.heap.size G wy/\wy.grownBy wx (some bc)/\Mp enc2 ok2 (fun _:Unit=>Value.bool true) wx bc (Words.put S (W,Y) ()))
    case first =>
     refine Canon.wp_region_tree [3,4] (fun b=>b=g\/b=w.heap.size) (.seg [0,4] (.alt 1 (.seg [2,3] (.alt 5 (.alt 6 .fin .no) .no)) (.alt 5 (.alt 1 (.seg [2,3] (.alt 6 .fin .no)) .no) .no))) mixed (by kernel_rfl) ?_;refine Canon.tr_seg ?_;simp only[zm,zg];go_wp2_with fail;refine Canon.tr_to (Canon.tr_alt ?_ (Canon.tr_one ?_))
     ·simp only[zg];go_wp2_with fail;refine Canon.tr_end (fun _ _=>rfl) (Canon.tr_seg ?_);simp only[zm,zg];go_wp2_with fail;refine Canon.tr_to (Canon.tr_one ?_);simp only[zg];go_wp2_with fail;refine(H.out G.drew).mono ?_;rintro e w3 ⟨rfl,k⟩;have c:=(zr G.heap.size G).drew.trans k;go_wp2_with fail;refine Canon.tr_end (fun b hb=>c.block _ (by rcases hb with rfl|rfl<;>omega)) (Canon.tr_one ?_);simp only[zg];refine zbdq _ rfl _ _ _ 103 rfl 39 4 keyE Tryz.underlying103 bc S rfl (a3.out.below c (by omega)) (W,Y) rfl I.out () rfl ?_;intro w9 U R _;have a7:=zz U;clear U;go_wp2_with fail;refine Canon.tr_end (fun b hb=>(R.block b (by have:=c.size;rcases hb with rfl|rfl<;>omega) (by rintro s;injection s with s;rcases hb with rfl|rfl<;>omega)).trans (c.block _ (by rcases hb with rfl|rfl<;>omega))) (Canon.tr_fin (by rfl) (zF ⟨.inl ⟨_,rfl,.inl rfl,by rw[zw,f1];rfl⟩,zF ⟨.inl ⟨_,rfl,.inr rfl,by rw[zw,b2];rfl⟩,fun _ h=>by cases h⟩⟩) ?_);go_wp2_with fail;go_meet;exact⟨w3,c,R,a7.out⟩
     ·simp only[zg];go_wp2_with fail;refine(H.out G.drew).mono ?_;rintro e w3 ⟨rfl,k⟩;have c:=(zr G.heap.size G).drew.trans k;go_wp2_with fail;refine Canon.tr_end (fun b hb=>c.block _ (by rcases hb with rfl|rfl<;>omega)) (Canon.tr_one ?_);simp only[zg];go_wp2_with fail;refine Canon.tr_end (fun b hb=>c.block _ (by rcases hb with rfl|rfl<;>omega)) (Canon.tr_seg ?_);simp only[zm,zg];have ed:=(c.cell (p:=⟨g,1,none⟩) (by show g<_;omega)).trans f1;go_wp2_with fail;refine Canon.tr_to (Canon.tr_one ?_);simp only[zg];refine zbdq _ rfl _ _ _ 103 rfl 39 4 keyE Tryz.underlying103 bc S rfl (a3.out.below c (by omega)) (W,Y) rfl I.out () rfl ?_;intro w9 U R _;have a7:=zz U;clear U;go_wp2_with fail;refine Canon.tr_end (fun b hb=>(R.block b (by have:=c.size;rcases hb with rfl|rfl<;>omega) (by rintro s;injection s with s;rcases hb with rfl|rfl<;>omega)).trans (c.block _ (by rcases hb with rfl|rfl<;>omega))) (Canon.tr_fin (by rfl) (zF ⟨.inl ⟨_,rfl,.inl rfl,by rw[zw,f1];rfl⟩,zF ⟨.inl ⟨_,rfl,.inr rfl,by rw[zw,b2];rfl⟩,fun _ h=>by cases h⟩⟩) ?_);go_wp2_with fail;go_meet;exact⟨w3,c,R,a7.out⟩
    case rest =>
     obtain⟨wy,a2,u,ck⟩:=hcut;obtain⟨w6,du⟩:∃w6,w6=wc:=⟨_,rfl⟩;subst du;have el:=a2.size;have ei:=u.size;have Q:=a3.out.below a2 (by omega);have b6:=b1.out.below a2 (by omega);have Z:=ah.out.below a2;have dh:Below B w w6:=(b9.trans (a2.mono (by omega))).grown u (by omega) (fun q A=>by cases A;omega);have ak:=Z.blk.kept_map Q u;have bo:=Z.tab.below ((zr B wy).grown u (by omega) (fun q A=>by cases A;omega)) zl;have b5:=b6.kept_map Q J.symm u;have bm:=zatq Z.sow Q u;have br:=zatq Z.wow Q u;have aw:=(d3.out.below a2 (by omega)).kept_map Q u;have cc:w6.cell? ⟨w.heap.size,0,none⟩=some (.int .i64 a):=aw.cell 0;have dc:w6.cell? ⟨w.heap.size,1,none⟩=some (.int .i64 b):=aw.cell 1;have dd:w6.cell? ⟨g,2,none⟩=some (.map (some be)):=ak.cell 2;have C:=b0.out;have cq:=C a;have ax:=C b;have dm:=Zgm L a;have dp:=Zgm L b;have aa:=ends_put (a:=a) (b:=b) C;have hcut:=cuts_put (e:=(a,b)) cv.out;rw[d9.out]at hcut;have an:(Words.look (Words.put E a ((Zbr L a:Nat)+1)) b).getD 0=(Zbr L b:Nat):=by rw[look_put,if_neg dg];exact ax
     obtain⟨ka,bh⟩:∃ka,Zbr L a=ka:=⟨_,rfl⟩;obtain⟨kb,bi⟩:∃kb,Zbr L b=kb:=⟨_,rfl⟩;rw[bh]at cq dm aa an;rw[bi]at ax dp aa an;clear bh bi b2 db f1 f2;have j:=l.out;obtain⟨e3,e2,dz,bt,c1,bx,c3,d4,bw,bv,b0,e5⟩:=zz12 Q b6 Z ak bo bm br aw aa hcut C ax;obtain⟨cw,l⟩:=zz2 ck j;clear Q b6 Z ak bo bm br aw aa hcut C ax ck j;go_wp2_with fail;refine Canon.wp_region_tree [5] (fun b=>b=g\/b=w.heap.size) (.seg [0,4,5] (.alt 1 (.seg [2,3] (.alt 6 (.seg [7] (.alt 8 .fin .no)) .no)) .no)) mixed (by kernel_rfl) ?_;refine Canon.tr_seg ?_;simp only[zm,zg];go_wp2_with fail;refine Canon.tr_to (Canon.tr_one ?_);simp only[zg];go_wp2_with fail;refine Canon.tr_end (fun _ _=>rfl) (Canon.tr_seg ?_);simp only[zm,zg];go_wp2_with fail;refine Canon.tr_to (Canon.tr_one ?_);simp only[zg];refine zanq _ rfl _ _ 104 rfl 3 3 keyI Tryz.underlying104 Zcp be E rfl b5.drew a rfl l.out.1 ?_;rw[Ziw cq];go_wp2_with fail;refine Canon.tr_end (fun _ _=>rfl) (Canon.tr_seg ?_);simp only[zm,zg];go_wp2_with fail;refine Canon.tr_to (Canon.tr_one ?_);simp only[zg];refine zbdq _ rfl _ _ _ 104 rfl 3 3 keyI Tryz.underlying104 be E rfl b5.drew a rfl l.out.1 ((ka:Int)+1) rfl ?_;intro w7 ch m _;have ai:=zz ch;clear ch;go_wp2_with fail;refine Canon.tr_end (fun b hb=>(m.block b (by rcases hb with rfl|rfl<;>(simp only[World.size_drew];omega)) (by rintro s;injection s with s;rcases hb with rfl|rfl<;>omega))) (Canon.tr_fin (by rfl) (zF ⟨.inl ⟨_,rfl,.inr rfl,by rw[zw,cc];rfl⟩,fun _ h=>by cases h⟩) ?_);have dv:=m.size;simp only[World.size_drew]at dv;have P:=b5.drew;have di:Below B w w7:=dh.drew.grown m (by simp only[World.size_drew];omega) (fun q A=>by cases A;omega);have am:=bt.out.drew.kept_map P m;have bp:=c1.out.below (((zr B w6).drew).grown m (by simp only[World.size_drew];omega) (fun q A=>by cases A;omega)) zl;have cm:=cw.out.drew.kept_map P J m;have bn:=zatq (Zdl bx.out) P m;have bs:=zatq (Zdl c3.out) P m;have bg:=d4.out.drew.kept_map P m;have ce:w7.cell? ⟨w.heap.size,1,none⟩=some (.int .i64 b):=bg.cell 1;have de:w7.cell? ⟨g,2,none⟩=some (.map (some be)):=am.cell 2;clear cc dc dd;obtain⟨bu,c2,cx,bz,c4,e4⟩:=zz6 am bp cm bn bs bg;clear am bp cm bn bs bg;go_wp2_with fail;refine Canon.wp_region_tree [5] (fun b=>b=g\/b=w.heap.size) (.seg [0,4,5] (.alt 1 (.seg [2,3] (.alt 6 (.seg [7] (.alt 8 .fin .no)) .no)) .no)) mixed (by kernel_rfl) ?_;refine Canon.tr_seg ?_;simp only[zm,zg];go_wp2_with fail;refine Canon.tr_to (Canon.tr_one ?_);simp only[zg];go_wp2_with fail;refine Canon.tr_end (fun _ _=>rfl) (Canon.tr_seg ?_);simp only[zm,zg];go_wp2_with fail;refine Canon.tr_to (Canon.tr_one ?_);simp only[zg];refine zanq _ rfl _ _ 104 rfl 3 3 keyI Tryz.underlying104 Zcp be (Words.put E a ((ka:Int)+1)) rfl ai.out.drew b rfl l.out.2 ?_;rw[Ziw an];go_wp2_with fail;refine Canon.tr_end (fun _ _=>rfl) (Canon.tr_seg ?_);simp only[zm,zg];go_wp2_with fail;refine Canon.tr_to (Canon.tr_one ?_);simp only[zg];refine zbdq _ rfl _ _ _ 104 rfl 3 3 keyI Tryz.underlying104 be (Words.put E a ((ka:Int)+1)) rfl ai.out.drew b rfl l.out.2 ((kb:Int)+1) rfl ?_;intro w8 ci z _;have cu:=zz ci;clear ci;go_wp2_with fail;refine Canon.tr_end (fun b hb=>(z.block b (by rcases hb with rfl|rfl<;>(simp only[World.size_drew];omega)) (by rintro s;injection s with s;rcases hb with rfl|rfl<;>omega))) (Canon.tr_fin (by rfl) (zF ⟨.inl ⟨_,rfl,.inr rfl,by rw[zw,ce];rfl⟩,fun _ h=>by cases h⟩) ?_);have a8:=ai.out.drew;have dj:Below B w w8:=di.drew.grown z (by simp only[World.size_drew];omega) (fun q A=>by cases A;omega);have cf:Ctr w8 B g bc be (.pointer tg) N T (L++[(a,b)]) n sv wv X O:={
      blk:=bu.out.drew.kept_map a8 z
      tab:=c2.out.below (((zr B w7).drew).grown z (by simp only[World.size_drew];omega) (fun q A=>by cases A;omega)) zl
      cuts:=⟨_,cx.out.drew.kept_map a8 J z,bv.out⟩
      ends:=⟨_,cu.out,bw.out⟩
      sow:=zatq (Zdl bz.out) a8 z
      wow:=zatq (Zdl c4.out) a8 z
      le:=dq
      ne:=J }
     clear ce de;have cs:=zz cf;clear cf;go_wp2_with fail;go_ret;exact⟨by rw[d.out];rfl,dj,by rw[if_pos d.out];exact cs.out⟩
open Go Go.RowKit Go.Words Go.Mesh
theorem pairE0(x y:Value)(w:World):(Instr.index 39 (.agg #[x,y]) (.int .i64 0)).run Tryz.prog w=.ok x w:=by kernel_rfl
theorem pairE1(x y:Value)(w:World):(Instr.index 39 (.agg #[x,y]) (.int .i64 1)).run Tryz.prog w=.ok y w:=by kernel_rfl
theorem idle_calls{w:World}{B g bc be:Nat}{tv sv wv:Value}{N n:Int}{T X:List T3}{L:List (Int×Int)}{O:List Int}(h:Ctr w B g bc be tv N T L n sv wv X O)(hs:Surf N T)(e:Int×Int)(he:ok2 e) :
  Calls Tryz.prog 65 #[.pointer (some ⟨g,0,none⟩),enc2 e] w fun r w'=>r=.returned (.bool (Zc6 N T L e))/\Below w.heap.size w w':=by
 obtain⟨a,b⟩:=e;have t:=(zr w.heap.size w).alloc zl (.cells #[.int .i64 a,.int .i64 b] 39);have j:=Bk.new w 39 [.int .i64 a,.int .i64 b];have f:=h.below t;have ag:=h.blk.lt;have a2:w.heap.size<(w.alloc (.cells #[.int .i64 a,.int .i64 b] 39)).heap.size:=by simp
 have S:=Za9 (.inl f.tab) hs a;have z:=fun wz (hz:Below (w.alloc (.cells #[.int .i64 a,.int .i64 b] 39)).heap.size (w.alloc (.cells #[.int .i64 a,.int .i64 b] 39)) wz)=>Za9 (.inl (f.below hz).tab) hs b
 obtain⟨tg,a1⟩:∃tg,tv=.pointer tg:=by
  obtain⟨R,_,_,_,_,_,F,_⟩:=h.tab;exact⟨_,F⟩
 subst a1
 change Calls Tryz.prog 65 #[.pointer (some ⟨g,0,none⟩),.agg #[.int .i64 a,.int .i64 b]] w fun r w'=>r=.returned (.bool (decide (Zbr L a<=1)&&Zae T N a&&(decide (Zbr L b<=1)&&Zae T N b)))/\_
 obtain⟨E,i,s⟩:=f.ends;have I:=s a;have J:=s b;have ae:=Zgm L a;have af:=Zgm L b;have P:=f.blk.cell 0;have Q:=f.blk.cell 2;simp only[List.getElem?_cons_zero,List.getElem?_cons_succ]at P Q;have W:=j.cell 0;have Y:=j.cell 1;simp only[List.getElem?_cons_zero,List.getElem?_cons_succ]at W Y;obtain⟨m,C⟩:∃m,m=w.alloc (.cells #[.int .i64 a,.int .i64 b] 39):=⟨_,rfl⟩;rw[<- C]at t j f a2 S z i P Q W Y;generalize Zbr L a=G at *;generalize Zbr L b=H at *;generalize Zae T N a=ia at *;generalize Zae T N b=ib at *;have a0:=i.lt;have ai:=pairE0;have aj:=pairE1;obtain⟨K,l⟩:∃K,(decide (G<=1)&&ia&&(decide (H<=1)&&ib))=K:=⟨_,rfl⟩;rw[l];have u:=fun(wz:World) (hz:Below m.heap.size m wz)=>i.below hz a0
 obtain⟨Hh,aa,a7,V,M,q,a6,c,v⟩:=zz9 h f j S z he s l u;clear h f j S z he s l u;go_enter Tryz.func65,Tryz.ntmps65;go_wp2_with fail;rw[<- C];clear C;refine wp_loop_rounds 3 ?_;rw[rounds_succ];by_cases F:G<=1
 case neg =>
  have h8:(1:Int)<(G:Int):=by omega
  go_wp2_with(at_lookup;refine zanq _ rfl _ _ 104 rfl 3 3 keyI Tryz.underlying104 Zcp be E rfl i a rfl q.out.1 ?_;rw[Ziw I]);all_goals try omega
  go_ret;exact⟨zaxq (by rw[<- c.out,zN F];rfl),t⟩
 have h8:¬((1:Int)<(G:Int)):=by omega
 go_wp2_with(at_lookup;refine zanq _ rfl _ _ 104 rfl 3 3 keyI Tryz.underlying104 Zcp be E rfl i a rfl q.out.1 ?_;rw[Ziw I]);all_goals try omega
 refine V.out.mono ?_;rintro r U ⟨rfl,d⟩;have ah:=d.size;have k:=t.trans (d.mono (show w.heap.size<=m.heap.size by omega));cases ia with
 | false =>
  go_wp2_with fail;go_ret;exact⟨zaxq (by rw[<- c.out];simp),k⟩
 | true =>
  have ac:=(d.cell (p:=⟨g,0,none⟩) (show g<m.heap.size by omega)).trans P;have ad:=(d.cell (p:=⟨g,2,none⟩) (show g<m.heap.size by omega)).trans Q;have x:=v.out U d;have A:=M.out U d;obtain⟨o,D⟩:=zz2 x A;clear x A;go_wp2_with fail;rw[rounds_succ];by_cases R:H<=1
  case neg =>
   have g8:(1:Int)<(H:Int):=by omega
   go_wp2_with(at_lookup;refine zanq _ rfl _ _ 104 rfl 3 3 keyI Tryz.underlying104 Zcp be E rfl o.out b rfl q.out.2 ?_;rw[Ziw J]);all_goals try omega
   go_ret;exact⟨zaxq (by rw[<- c.out,zN R];simp),k⟩
  have g8:¬((1:Int)<(H:Int)):=by omega
  go_wp2_with(at_lookup;refine zanq _ rfl _ _ 104 rfl 3 3 keyI Tryz.underlying104 Zcp be E rfl o.out b rfl q.out.2 ?_;rw[Ziw J]);all_goals try omega
  refine D.out.mono ?_;rintro r w3 ⟨rfl,Z⟩;have y:=k.trans (Z.mono (show w.heap.size<=U.heap.size by omega));cases ib with
  | false =>
   go_wp2_with fail;go_ret;exact⟨zaxq (by rw[<- c.out];simp),y⟩
  | true =>
   go_wp2_with fail;rw[rounds_succ];go_wp2_with fail;go_ret;exact⟨zaxq (by rw[<- c.out,zY F,zY R];rfl),y⟩
theorem index_idle{w:World}{B g bc be:Nat}{tv sv wv lv:Value}{N n:Int}{T X:List T3}{L M:List (Int×Int)}{O:List Int}(h:Ctr w B g bc be tv N T L n sv wv X O)(hs:Surf N T){B0:Nat}(hM:Sl 2 Zaz w B0 lv M)(hB0:B0<=w.heap.size)(hok:∀e∈M,ok2 e)(hl:M.length<=100000) :
  Calls Tryz.prog 106 #[lv,.func (.func 65) #[.pointer (some ⟨g,0,none⟩)] #[]] w fun r w'=>(∃k:Int,r=.returned (.int .i64 k)/\(0<=k↔M.any (Zc6 N T L)=true) /\ -1<=k/\k<=100000)/\Below w.heap.size w w':=by
 obtain⟨A,Y,rfl,R⟩:=hM.form;have q:=fun(wz:World) (hz:Below w.heap.size w wz) (a b:Int) (p:ok2 (a,b))=>idle_calls (h.below hz) hs (a,b) p
 have S:=zr w.heap.size w
 change ∀wz,Below w.heap.size w wz->∀a b,ok2 (a,b)->Calls _ _ #[.pointer (some ⟨g,0,none⟩),.agg #[.int .i64 a,.int .i64 b]] wz _ at q
 obtain⟨Hh,H,D,F⟩:=zz4 h hM q hok;clear h hM q hok;go_enter Tryz.func106,Tryz.ntmps106;go_wp2_with fail;go_loopw[8] (fun iv wr=>∃k:Nat,k<=M.length/\iv=.int .i64 (k:Int)/\(∀i (hi:i<M.length),i<k->Zc6 N T L M[i]=false)/\Below w.heap.size w wr) (fun iv _=>M.length-(intOf iv).toNat)
 case atStart=>exact⟨0,by omega,rfl,fun i _ hi=>by omega,S⟩
 case round =>
  obtain⟨k,hk,rfl,c,d⟩:=hrel;obtain⟨G,P⟩:∃G,G=wr:=⟨_,rfl⟩;subst P;by_cases s:k<M.length
  ·obtain⟨b,o,rfl,hb,d0,d1⟩:=(H.out.below Zaa (d.mono hB0)).pair_at s;have p:=F.out _ (zM s);have m:Zc6 N T L M[k]=true->M.any (Zc6 N T L)=true:=fun h9=>List.any_eq_true.2 ⟨_,zM s,h9⟩
   have j:Zc6 N T L M[k]=false->∀i (hi:i<M.length),i<k+1->Zc6 N T L M[i]=false:=fun h9 i hi h8=>by
    by_cases Q:i=k
    ·subst Q;exact h9
    ·exact c i hi (by omega)
   generalize M[k]=e at *;obtain⟨x,y⟩:=e;have v:=D.out G d x y p;generalize Zc6 N T L (x,y)=V at *;have Z:(k:Int)<(M.length:Int):=by omega
   obtain⟨u,t,l,C,W⟩:=zz5 c m j v p;clear c m j v p;go_wp2_with fail;refine C.out.mono ?_;rintro e w2 ⟨rfl,J⟩;have f:=d.trans (J.mono d.size);cases V with
   | true =>
    go_wp2_with fail;go_ret;exact⟨⟨(k:Int),rfl,⟨fun _=>t.out (by first|trivial|rfl),fun _=>by omega⟩,by omega,by omega⟩,f⟩
   | false =>
    have K:=l.out rfl;have I:=zz K;clear K;go_wp2_with fail;exact⟨⟨k+1,by omega,by simp,I.out,f⟩,by simp[intOf];omega⟩
  ·obtain rfl:k=M.length:=by omega
   have z:M.any (Zc6 N T L)=false:=by
    rw[List.any_eq_false];intro x U;obtain⟨i,hi,rfl⟩:=zE U;rw[c i hi hi];decide
   obtain⟨u,E⟩:=zz2 c z;clear c z;go_wp2_with fail;go_ret;exact⟨⟨-1,rfl,⟨fun h9=>by omega,fun h9=>by rw[E.out]at h9;cases h9⟩,by omega,by omega⟩,d⟩
theorem Zzk{w:World}{B g bc be:Nat}{tv sv wv lv:Value}{N n:Int}{T X:List T3}{L M:List (Int×Int)}{O:List Int}(h:Ctr w B g bc be tv N T L n sv wv X O)(hs:Surf N T){B0:Nat}(hM:Sl 2 Zaz w B0 lv M)(hB0:B0<=w.heap.size)(hok:∀e∈M,ok2 e)(hl:M.length<=100000) :
  Calls Tryz.prog 64 #[lv,.func (.func 65) #[.pointer (some ⟨g,0,none⟩)] #[]] w fun r w'=>r=.returned (.bool (M.any (Zc6 N T L)))/\Below w.heap.size w w':=by
 have hi:=index_idle h hs hM hB0 hok hl;obtain⟨A,q,rfl,o⟩:=hM.form;obtain⟨a,f⟩:∃a,M.any (Zc6 N T L)=a:=⟨_,rfl⟩;rw[f]at hi ⊢;obtain⟨u,p,i,m⟩:=zz4 h hM hi hok;clear h hM hi hok;go_enter Tryz.func64,Tryz.ntmps64;go_wp2_with fail;refine i.out.mono ?_;rintro e v ⟨⟨k,rfl,b,s,t⟩,c⟩;by_cases l:0<=k
 ·have d:=b.1 l;have j:=zz b;clear b;go_wp2_with fail;all_goals try omega
  go_ret;exact⟨zaxq (by subst d;first|rfl|(simp only[decide_eq_true_eq];omega)),c⟩
 ·have d:a=false:=by cases a with
   | false=>rfl
   | true=>exact absurd (b.2 rfl) l
  have j:=zz b;clear b;go_wp2_with fail;all_goals try omega
  go_ret;exact⟨zaxq (by subst d;first|rfl|(simp only[decide_eq_false_iff_not];omega)),c⟩
theorem now_calls{w:World}{B g bc be:Nat}{tv sv wv:Value}{N n:Int}{T X:List T3}{L:List (Int×Int)}{O:List Int}(h:Ctr w B g bc be tv N T L n sv wv X O){c:Nat}(hc:c<3*X.length)(hl:X.length<=8192) :
  Calls Tryz.prog 68 #[.pointer (some ⟨g,0,none⟩),.int .i64 (c:Int)] w fun r w'=>r=.returned (enc2 (eg X c))/\Below w.heap.size w w':=by
 have u:Sl 3 RTri w w.heap.size sv X:=Sl.of_own h.sow fun i a hi=>Zeh X i a hi
 obtain⟨A,aa,rfl,a3⟩:=zaeq h.sow;obtain⟨b,o,rfl,hb,e⟩:=Zbw u (i:=c/3) (by omega);have Z:=e 0 (by omega);have k1:=e 1 (by omega);have k2:=e 2 (by omega);simp only[Nat.add_zero]at Z;have ae:=h.blk.lt;have P:=h.blk.cell 4;simp only[List.getElem?_cons_zero,List.getElem?_cons_succ]at P;have Q:=(zr w.heap.size w).alloc zl (.cells #[.int .i64 0,.int .i64 0] 39);have hd:(c:Int)/3=((c/3:Nat):Int):=by omega
 have M:∀k,k<3->Mesh.vt X (3*(c/3)+k)=([Mesh.vt X (3*(c/3)),Mesh.vt X (3*(c/3)+1),Mesh.vt X (3*(c/3)+2)].getD k 0):=fun k hk=>by
  have:k=0\/k=1\/k=2:=by omega
  rcases this with rfl|rfl|rfl<;>rfl
 obtain⟨p,hp,S⟩:∃p:Nat,((c:Int)+1)%3=p/\p<3:=⟨(c+1)%3,by omega,by omega⟩;obtain⟨q,hq,U⟩:∃q:Nat,((c:Int)+2)%3=q/\q<3:=⟨(c+2)%3,by omega,by omega⟩;have D:vt X (nx c)=Mesh.vt X (3*(c/3)+p):=by congr 1;unfold nx;omega
 have E:vt X (pv c)=Mesh.vt X (3*(c/3)+q):=by congr 1;unfold pv;omega
 change Calls Tryz.prog 68 #[.pointer (some ⟨g,0,none⟩),.int .i64 (c:Int)] w fun r w'=>r=.returned (.agg #[.int .i64 (vt X (nx c)),.int .i64 (vt X (pv c))])/\Below w.heap.size w w'
 rw[D,E];have F:=M p S;have G:=M q U;have ac:c/3<X.length:=by omega
 have ad:(c:Int)<=30000:=by omega
 generalize V:Mesh.vt X (3*(c/3))=l at *;generalize W:Mesh.vt X (3*(c/3)+1)=m at *;generalize Y:Mesh.vt X (3*(c/3)+2)=s at *;rw[F,G];obtain⟨y1,v⟩:∃y,[l,m,s].getD p 0=y:=⟨_,rfl⟩;obtain⟨y2,x⟩:∃y,[l,m,s].getD q 0=y:=⟨_,rfl⟩;rw[v,x];generalize R:c/3=d at *;clear e D E F G M V W Y R;obtain⟨Hh,a2,J,K⟩:=zz4 h u v x;clear h u v x;go_enter Tryz.func68,Tryz.ntmps68;go_wp2_with fail;have j:=Bk.new' (n:=w.heap.size+1) (w:=w.alloc (.cells #[.int .i64 0,.int .i64 0] 39)) 57 [.int .i64 l,.int .i64 m,.int .i64 s] (by simp);have f:=(Bk.new w 39 [.int .i64 0,.int .i64 0]).alloc (.cells #[.int .i64 l,.int .i64 m,.int .i64 s] 57);have z:=Q.alloc (by simp) (.cells #[.int .i64 l,.int .i64 m,.int .i64 s] 57);obtain⟨t,H⟩:∃t,t=(w.alloc (.cells #[.int .i64 0,.int .i64 0] 39)).alloc (.cells #[.int .i64 l,.int .i64 m,.int .i64 s] 57):=⟨_,rfl⟩;rw[<- H]at j f z ⊢;have lp:t.cell? ⟨w.heap.size+1,p,none⟩=some (.int .i64 ([l,m,s].getD p 0)):=by
  rw[j.cell];have:p=0\/p=1\/p=2:=by omega
  rcases this with rfl|rfl|rfl<;>rfl
 have lq:t.cell? ⟨w.heap.size+1,q,none⟩=some (.int .i64 ([l,m,s].getD q 0)):=by
  rw[j.cell];have:q=0\/q=1\/q=2:=by omega
  rcases this with rfl|rfl|rfl<;>rfl
 rw[J.out]at lp;rw[K.out]at lq;clear H Z k1 k2 P;have C:=(f.set 0 (.int .i64 y1)).set 1 (.int .i64 y2);have z0:t.cell? ⟨w.heap.size,0,none⟩=some (.int .i64 0):=f.cell 0;have z1:t.cell? ⟨w.heap.size,1,none⟩=some (.int .i64 0):=f.cell 1;have zf:=f.frozen;obtain⟨a0,a1,I⟩:=zz3 j f C;clear j f C;go_wp2_with(first|(refine Canon.wp_region_text mixed (by kernel_rfl) ?_)|(refine Canon.chk (by rfl) ?_));exact Zbg rfl rfl I.out.drew Tryz.underlying39 rfl (by kernel_rfl) rfl ⟨rfl,((z.setCell (p:=⟨w.heap.size,0,none⟩) zl _).setCell (p:=⟨w.heap.size,1,none⟩) zl _).drew⟩
end Go.Proofs.YtpbdcppaiafbgaaGreat
namespace Go.Mesh
theorem Znt:∀(l:List Nat) (a:Nat),(l.map fun n:Nat=>(n:Int)).foldl min (a:Int)=(l.foldl min a:Nat)
 | [],_=>rfl
 | b::l,a=>by
  rw[List.map_cons,List.foldl_cons,List.foldl_cons,show min (a:Int) (b:Int)=((min a b:Nat):Int) by omega];exact Znt l (min a b)
theorem minOf_cast(l:List Nat):Go.Lib.minOf (l.map fun n:Nat=>(n:Int))=(minL l:Nat):=by
 unfold Go.Lib.minOf minL;cases l with
 | nil=>rfl
 | cons a l=>exact Znt (a::l) a
end Go.Mesh
namespace Go.Proofs.YtpbdcppaiafbgaaGreat
open Go Go.RowKit Go.Words Go.Mesh Go.Shelf Go.Sort
structure RowAt (w : World) (g lo : Nat) (x : Value×List Nat) : Prop where
 ne:x.2≠[]
 few:x.2.length<=100000
 small:∀c∈x.2,c<=100000
 at_:∃b off cap,x.1=.slice (some ⟨b,off,none⟩) x.2.length cap/\b≠g/\b<w.heap.size/\lo<=b/\x.2.length<=cap/\∀i (h:i<x.2.length),w.cell? ⟨b,off+i,none⟩=some (.int .i64 (x.2[i]:Int))
abbrev RowS(w:World)(g lo:Nat):={ x:Value×List Nat // RowAt w g lo x }
def encR{w:World}{g lo:Nat}(x:RowS w g lo):Value:=x.1.1
def cmpR{w:World}{g lo:Nat}(x y:RowS w g lo):Int:=(minL x.1.2:Int)-minL y.1.2
theorem Zrz{w:World}{g lo:Nat}(x:RowS w g lo)(W:World)(hW:∀a:Addr,a.block≠g->a.block<w.heap.size->W.cell? a=w.cell? a) :
  Calls Tryz.prog 139 #[x.1.1] W fun e w'=>e=.returned (.int .i64 (minL x.1.2:Nat))/\w'=W:=by
 obtain⟨⟨v,row⟩,d⟩:=x;obtain⟨b,off,f,h,l,m,_,_,i⟩:=d.at_;simp only[]at h i;subst h;have k:0<row.length:=List.length_pos_iff.2 d.ne;have c:=d.few;simp only[]at c;have:=Any.slices_Min_int Tryz.minInts b off row.length f (row.map fun n:Nat=>(n:Int)) W k (by rw[zL];exact zl) (by omega) fun j hj=>by
  rw[zL]at hj;rw[hW ⟨b,off+j,none⟩ l m,i j hj,zD,zJ,zG hj];rfl
 rw[List.take_of_length_le (by rw[zL];exact zl),minOf_cast]at this;exact this
theorem cmprow_calls{w:World}{g lo:Nat}(x y:RowS w g lo)(W:World)(hW:∀a:Addr,a.block≠g->a.block<w.heap.size->W.cell? a=w.cell? a) :
  Calls Tryz.prog 138 #[x.1.1,y.1.1] W fun e b=>e=.returned (.int .i64 (cmpR x y))/\b=W:=by
 have c:=Zrz x W hW;have d:=Zrz y W hW;have u:=x.2.small _ (minL_mem x.2.ne);have v:=y.2.small _ (minL_mem y.2.ne)
 change Calls Tryz.prog 138 #[x.1.1,y.1.1] W fun e b=>e=.returned (.int .i64 ((minL x.1.2:Int)-minL y.1.2))/\b=W
 obtain⟨k,s,m,i,-⟩:=x.2.at_;obtain⟨l,t,n,j,-⟩:=y.2.at_;rw[i]at c ⊢;rw[j]at d ⊢;generalize minL x.1.2=o at *;generalize minL y.1.2=p at *;generalize x.1.2.length=q at *;generalize y.1.2.length=r at *;obtain⟨f,h⟩:=zz2 c d;clear c d;go_enter Tryz.func138,Tryz.ntmps138;go_wp2_with fail;refine f.out.mono ?_;rintro e b ⟨rfl,rfl⟩;go_wp2_with fail;refine h.out.mono ?_;rintro e b ⟨rfl,rfl⟩;go_wp2_with fail;go_ret;exact⟨rfl,rfl⟩
theorem ltRow{w:World}{g lo:Nat}(x y:RowS w g lo):ltOf cmpR x y=decide (minL x.1.2<minL y.1.2):=by
 unfold ltOf cmpR;exact decide_eq_decide.2 (by omega)
theorem swoR(w:World)(g lo:Nat):SWO (ltOf (cmpR (w:=w) (g:=g) (lo:=lo))) where
 irrefl:=fun x=>by rw[ltRow];simp
 trans:=fun x y z=>by simp only[ltRow,decide_eq_true_eq];omega
 ntrans:=fun x y z=>by simp only[ltRow,decide_eq_false_iff_not];omega
theorem putCells_map{α:Type}[Inhabited α](enc:α->Value)(d:Array α)(cur:Array Value):putCells enc 0 d cur=putCells id 0 (d.map enc) cur:=by
 unfold putCells;apply Array.ext
 ·simp
 ·intro i a b;simp only[Array.getElem_mapIdx,Array.size_map,Nat.zero_le,true_and,Nat.zero_add,Nat.sub_zero]
  split
  ·rename_i h;simp[getElem!_pos,h]
  ·rfl
theorem cell_sorted{α:Type}[Inhabited α](enc:α->Value)(W:World)(blk off n:Nat)(dk:Array α)(os:Array Obj)(a:Addr)(h1:a.block≠blk)(h2:a.block<W.heap.size):(sortWorld enc W blk off n dk os).cell? a=W.cell? a:=by
 unfold sortWorld;rw[cell?_grow _ _ _ (by rw[size_putRow];exact h2),cell?_putRow_other enc _ blk off dk a (Or.inl h1)];rfl
theorem Zny{w:World}{base g cap n lo:Nat}{vs:List Value}{Ls:List (List Nat)}(h:w.ownsRow base 28 1 (.slice (some ⟨g,0,none⟩) n cap) n vs)(hl:Ls.length=n)(hn:0<n)(hfew:n<=100000)
  (hrow:∀(i:Nat) (v:Value) (L:List Nat),vs[i]? = some v->Ls[i]? = some L->RowAt w g lo (v,L)) :
  Calls Tryz.prog 137 #[.slice (some ⟨g,0,none⟩) n cap,.func (.func 138) #[] #[]] w fun e t=>e=.returned (.tuple #[])/\w.grownBy t (some g) /\
   ∃(vs':List Value) (Ls':List (List Nat)),Ls'.Perm Ls/\Ls'.Pairwise (fun x y=>¬minL y<minL x)/\t.ownsRow base 28 1 (.slice (some ⟨g,0,none⟩) n cap) n vs'/\vs'.length=n/\∀(i:Nat) (v:Value) (L:List Nat),vs'[i]? = some v->Ls'[i]? = some L->RowAt w g lo (v,L):=by
 have H:vs.length=n:=by have:=h.1;omega
 obtain⟨D,u,C⟩:∃D:List (RowS w g lo),D.map encR=vs/\D.map (fun x=>x.1.2)=Ls:=by
  have I:∀(vs:List Value) (Ls:List (List Nat)),vs.length=Ls.length->(∀(i:Nat) (v:Value) (L:List Nat),vs[i]? = some v->Ls[i]? = some L->RowAt w g lo (v,L))->∃D:List (RowS w g lo),D.map encR=vs/\D.map (fun x=>x.1.2)=Ls:=fun vs=>by
   induction vs with
   | nil =>
    intro Ls d _;cases Ls with
    | nil=>exact⟨[],rfl,rfl⟩
    | cons L Ls=>simp at d
   | cons v vs ih =>
    intro Ls d f;cases Ls with
    | nil=>simp at d
    | cons L Ls =>
     obtain⟨D,p,q⟩:=ih Ls (by simpa using d) fun i a b ha hb=>f (i+1) a b (by simpa using ha) (by simpa using hb)
     exact⟨⟨(v,L),f 0 v L rfl rfl⟩::D,by rw[List.map_cons,p];rfl,by rw[List.map_cons,q]⟩
  exact I vs Ls (by omega) hrow
 have r:D.length=n:=by rw[<- H,<- u,zL]
 haveI:Inhabited (RowS w g lo):=⟨D[0]'(by omega)⟩
 have eg:∀args w,(callFunc 138 args).run Tryz.prog w=.ok (.enter 138 args) w:=enters_of Tryz.func138 (by kernel_rfl) rfl;have z:CmpLays1 Tryz.prog 138 #[] (encR (w:=w) (g:=g) (lo:=lo)) cmpR g 0 D.toArray.size w:=fun m os dk _ x y=>by
  refine(cmprow_calls x y _ fun a d f=>cell_sorted encR w g 0 m dk os a d f).mono ?_;rintro e t ⟨rfl,rfl⟩;exact⟨rfl,0,#[],by rw[grow_empty];rfl⟩
 have K:Holds encR w g 0 D.toArray:=by
  intro j k;have k:j<D.length:=by simpa using k
  rw[Nat.zero_add];refine⟨?_,h.frozenAt j⟩;rw[h.cellAt j (by omega),<- u,zJ,zG k];simp[getElem!_pos,k]
 have A:OneCell (encR (w:=w) (g:=g) (lo:=lo)):=fun x=>by
  obtain⟨b,off,cap,d,_⟩:=x.2.at_;unfold encR;rw[d];rfl
 have l:=Any.slices_SortFunc Tryz.sortRows encR A cmpR (swoR w g lo) 138 #[] g 0 cap D.toArray w eg z K (h.lt g rfl).2 (by simp;omega);rw[show D.toArray.size=n by simp[r]]at l
 change Calls Tryz.prog 137 _ _ _ at l
 refine l.mono ?_;rintro e t ⟨rfl,c,m,os,F,G,rfl⟩;have o:c.size=n:=by have:=F.1;simpa[r]using this
 have s:c.toList.Perm D:=by
  have:=F.2.2;have p:c.extract 0 n=c:=by rw[<- o];simp
  have q:D.toArray.extract 0 n=D.toArray:=by rw[<- r];simp
  rw[p,q]at this;simpa using this
 refine⟨rfl,?_,c.toList.map encR,c.toList.map (fun x=>x.1.2),by rw[<- C];exact s.map _,?_,?_,by simp[o],?_⟩
 ·unfold sortWorld;exact Zgt encR c
 ·rw[List.pairwise_map,List.pairwise_iff_getElem];intro i j hi k E;have:=G i j (by omega) E (by simpa[o]using k);rw[ltRow]at this;simp at hi k;simpa[getElem!_pos,hi,k]using this
 ·have J:=Zq6 (m:=m) (os:=os) (c.map encR) h (by simp[o]);unfold sortWorld;have e:putRow encR (Sort.ahead w m) g 0 c=putRow id (Sort.ahead w m) g 0 (c.map encR):=by
   unfold putRow;rw[show putCells encR 0 c=putCells id 0 (c.map encR)from funext fun cur=>putCells_map encR c cur]
  rw[e];simpa using J
 ·intro i v L d f;rw[zJ]at d f;cases B:c.toList[i]? with
  | none=>rw[B]at d;cases d
  | some x =>
   rw[B]at d f;have p:encR x=v:=by simpa using d
   have q:x.1.2=L:=by simpa using f
   subst p;subst q;exact x.2
end Go.Proofs.YtpbdcppaiafbgaaGreat
namespace Go.Words
open Go Go.RowKit
theorem Zsf{P:Program}(w:World){ops:Array Oper}{rest:List Oper}{o:Oper}{a:Act}{Q:Exit->Act->World->Prop}{κ α:Type}[DecidableEq κ]{enc:κ->Value}{ok:κ->Prop}{ev:α->Value}
  (hg:Region.wanted o (yielded ops a.tmps)=true) (m x:Operand) (t:TypeId) (hop:o.op=Op.lookup t m x false) (k e:TypeId) (K:KeyT P k enc ok) (ht:P.underlying t=some (.map k e)) {z:Value} (hz:∀w,(zeroValue e).run P w=.ok z w)
  (b:Nat) (l:List (κ×α)) (hm:a.eval m=.map (some b)) (hown:Mp enc ok ev w b l) (key:κ) (hx:a.eval x=enc key) (hkey:ok key)
  (hK:wpList P ops Q rest (a.put o.dst (((look l key).map ev).getD z)) w):wpList P ops Q (o::rest) a w:=by
 refine wpList_step fun K' hK'=>?_
 rw[if_pos hg];have c:=hown.look_run K ht (hz w) hkey false;unfold Oper.wp;simp[execOp,hop,hm,hx,c,Result.andThen];exact hK' _ _ hK
end Go.Words
namespace Go.Proofs.YtpbdcppaiafbgaaGreat
open Go Go.RowKit Go.Words Go.Mesh
structure SecJ (w : World) (gb g : Nat) (tg : Option Addr) (v : Int) (out : List (List Nat)) (row : List Nat) (op : Bool) (W : World) : Prop where
 b0:Boxed W gb 102 (.pointer (some ⟨g,0,none⟩))
 b1:Boxed W (gb+1) 3 (.int .i64 v)
 b5:Boxed W (gb+5) 46 (.pointer tg)
 rows:∃vo vs rv,Boxed W (gb+1+1) 78 vo/\W.ownsRow (gb+7) 28 1 vo vs.length vs/\Boxed W (gb+1+1+1) 28 rv/\Fam W (gb+7) 3 (vs++[rv]) (out++[row])
 b4:Boxed W (gb+1+1+1+1) 4 (.bool op)
 bl:Below gb w W
 sz:gb+7<=W.heap.size
theorem SecJ.len{w W:World}{gb g:Nat}{tg:Option Addr}{v:Int}{out:List (List Nat)}{row:List Nat}{op:Bool}(hs:SecJ w gb g tg v out row op W):∃e a d,Boxed W (gb+1+1) 78 e/\W.ownsRow (gb+7) 28 1 e a.length a/\Boxed W (gb+1+1+1) 28 d/\Fam W (gb+7) 3 (a++[d]) (out++[row])/\W.ownsRow (gb+7) 3 1 d row.length (row.map Words.encI)/\a.length=out.length:=by
 obtain⟨e,a,d,j,k,l,f⟩:=hs.rows;have h:=f.len;have c:a.length=out.length:=by simp at h;exact h
 have b:=f.own a.length (by simp) (by simp[c]);rw[List.getElem_append_right zl]at b;simp only[Nat.sub_self,List.getElem_cons_zero]at b;have i:(out++[row])[a.length]'(by simp[c])=row:=by simp[c]
 rw[i]at b;exact⟨e,a,d,j,k,l,f,b,c⟩
theorem Zjh{W W':World}{row:Option Nat}{n:Nat}{t:TypeId}{v:Value}(h:Boxed W n t v)(hg:W.grownBy W' row)(hr:∀r,row=some r->∃o:Obj,W.heap[r]? = some o/\o.isCells=false):Boxed W' n t v :=
 h.kept hg fun e=>by
  obtain⟨o,a,b⟩:=hr n e.symm;rw[show W.heap[n]? = _ from h]at a;cases a;cases b
theorem own_non{W:World}{row:Option Nat}{base size n:Nat}{e:TypeId}{v:Value}{xs:List Value}(h:W.ownsRow base e size v n xs)(hr:∀r,row=some r->∃o:Obj,W.heap[r]? = some o/\o.isCells=false):(v.ownBlock=none\/v.ownBlock≠row):=by
 rcases h.2 with⟨b,_⟩|⟨g,i,j,b,_,c,_⟩
 ·left;rw[b];rfl
 ·right;intro a;rw[b]at a;have a:some g=row:=by simpa[Value.ownBlock]using a
  obtain⟨o,d,f⟩:=hr g a.symm;rw[c]at d;cases d;cases f
theorem fam_non{W W':World}{row:Option Nat}{base:Nat}{e:TypeId}{vs:List Value}{Ls:List (List Nat)}(h:Fam W base e vs Ls)(hg:W.grownBy W' row)(hr:∀r,row=some r->∃o:Obj,W.heap[r]? = some o/\o.isCells=false):Fam W' base e vs Ls :=
 h.kept hg fun i hi=>own_non (h.own i hi (by rw[<- h.len];exact hi)) hr
theorem Zf5{W W':World}{n:Nat}{t:TypeId}{v:Value}{B:Nat}(h:Boxed W n t v)(hb:Below B W W')(hn:n<B):Boxed W' n t v:=(hb.block n hn).trans h
theorem Zqp{W:World}{base b:Nat}{e:TypeId}{vs:List Value}{Ls:List (List Nat)}(h:Fam W base e vs Ls)(hb:b<base)(u:Value):Fam (W.setCell ⟨b,0,none⟩ u) base e vs Ls :=
 h.kept (grownBy_setCell' W b u) fun i hi=>.inr fun e9=>by have:=((h.own i hi (by rw[<- h.len];exact hi)).lt b e9).1;omega
theorem Zvm{W:World}{base b size n:Nat}{e:TypeId}{v u:Value}{xs:List Value}(h:W.ownsRow base e size v n xs)(hb:b<base):(W.setCell ⟨b,0,none⟩ u).ownsRow base e size v n xs :=
 h.kept (grownBy_setCell' W b u) (.inr fun e9=>by have:=(h.lt b e9).1;omega)
section
variable {w W W1 : World} {gb g : Nat} {tg : Option Addr} {v : Int} {out : List (List Nat)} {row : List Nat} {op : Bool}
theorem SecJ.non{W':World}{r:Option Nat}{B:Nat}(hw:gb<=w.heap.size)(hB:gb<=B)(hs:SecJ w gb g tg v out row op W)(hg:W.grownBy W' r)(hr:∀k,r=some k->B<=k/\∃o:Obj,W.heap[k]? = some o/\o.isCells=false):SecJ w gb g tg v out row op W':=by
 have a:∀k,r=some k->∃o:Obj,W.heap[k]? = some o/\o.isCells=false:=fun k e=>(hr k e).2
 obtain⟨i,j,h,c,b,d,f⟩:=hs.rows;exact {
  b0:=Zjh hs.b0 hg a
  b1:=Zjh hs.b1 hg a
  b5:=Zjh hs.b5 hg a
  rows:=⟨i,j,h,Zjh c hg a,b.kept hg (own_non b a),Zjh d hg a,fam_non f hg a⟩
  b4:=Zjh hs.b4 hg a
  bl:=hs.bl.grown hg (Nat.le_trans hw hs.bl.size) fun k e=>Nat.le_trans hB (hr k e).1
  sz:=Nat.le_trans hs.sz hg.size }
theorem SecJ.below{W':World}(hs:SecJ w gb g tg v out row op W)(hb:Below W.heap.size W W'):SecJ w gb g tg v out row op W':=by
 have i:=hs.sz;obtain⟨f,h,e,a,b,c,d⟩:=hs.rows;exact {
  b0:=Zf5 hs.b0 hb (by omega)
  b1:=Zf5 hs.b1 hb (by omega)
  b5:=Zf5 hs.b5 hb (by omega)
  rows:=⟨f,h,e,Zf5 a hb (by omega),zafq b hb zl,Zf5 c hb (by omega),d.below hb zl⟩
  b4:=Zf5 hs.b4 hb (by omega)
  bl:=hs.bl.trans (hb.mono (by omega))
  sz:=Nat.le_trans hs.sz hb.size }
theorem keeps_below{W W':World}(hb:Below W.heap.size W W'):KeepsOthers W W':=KeepsOthers.of_grownBy (Zh6 hb) (fun _ _ e=>by cases e)
theorem SecJ.mark(hs:SecJ w gb g tg v out row op W)(op':Bool):SecJ w gb g tg v out row op' (W.setCell ⟨gb+1+1+1+1,0,none⟩ (.bool op'))/\KeepsOthers W (W.setCell ⟨gb+1+1+1+1,0,none⟩ (.bool op'))/\Below gb W (W.setCell ⟨gb+1+1+1+1,0,none⟩ (.bool op')):=by
 obtain⟨f,h,e,a,b,c,d⟩:=hs.rows;refine⟨{
  b0:=hs.b0.other (by omega) _
  b1:=hs.b1.other (by omega) _
  b5:=hs.b5.other (by omega) _
  rows:=⟨f,h,e,a.other (by omega) _,Zvm b (by omega),c.other (by omega) _,Zqp d (by omega) _⟩
  b4:=hs.b4.set _
  bl:=hs.bl.setCell (p:=⟨gb+1+1+1+1,0,none⟩) (by show gb<=gb+1+1+1+1;omega) _
  sz:=by have:=hs.sz;exact Nat.le_trans this (KeepsOthers.setCell W ⟨gb+1+1+1+1,0,none⟩ (.bool op')).size },KeepsOthers.setCell _ _ _,(zr gb W).setCell (p:=⟨gb+1+1+1+1,0,none⟩) (by show gb<=gb+1+1+1+1;omega) _⟩
theorem SecJ.app(hs:SecJ w gb g tg v out row op W){vo rv v':Value}{vs:List Value}(h1:Boxed W (gb+1+1) 78 vo)(h2:W.ownsRow (gb+7) 28 1 vo vs.length vs)(h3:Boxed W (gb+1+1+1) 28 rv)(h4:Fam W (gb+7) 3 (vs++[rv]) (out++[row]))
  {tmp:Obj} {c:Nat} (hown:W1.ownsRow (gb+7) 3 1 v' (row.length+1) (row.map Words.encI++[.int .i64 (c:Int)])) (hgr:(W.alloc tmp).grownBy W1 rv.ownBlock) (hat:v'.ownBlock=rv.ownBlock\/v'.ownBlock=some (W.alloc tmp).heap.size) :
  SecJ w gb g tg v out (row++[c]) op (W1.setCell ⟨gb+1+1+1,0,none⟩ v')/\KeepsOthers W (W1.setCell ⟨gb+1+1+1,0,none⟩ v')/\Below gb W (W1.setCell ⟨gb+1+1+1,0,none⟩ v'):=by
 have h:=hs.sz;have q:=h4.len;have d:vs.length=out.length:=by simp at q;exact q
 have b:=h4.own vs.length (by simp) (by simp[d]);rw[List.getElem_append_right zl]at b;simp only[Nat.sub_self,List.getElem_cons_zero]at b;have r:(out++[row])[vs.length]'(by simp[d])=row:=by simp[d]
 rw[r]at b;obtain⟨_,y,_,l,m,z⟩:=Zci (B:=gb+1+1+1) h3 (by omega) b h hown hgr;have a:∀n t u,n<gb+7->n≠gb+1+1+1->Boxed W n t u->Boxed (W1.setCell ⟨gb+1+1+1,0,none⟩ v') n t u:=z;have p:=h4.below ((zr W.heap.size W).alloc zl tmp) zl;have e:=zafq h2 ((zr W.heap.size W).alloc zl tmp) zl;have k:=zafq b ((zr W.heap.size W).alloc zl tmp) zl;have f:=p.set (i:=vs.length) (by simp) (v':=v') (L':=row++[c]) (w':=W1) (by rw[zA,List.map_append];exact hown)
  (by rw[List.getElem_append_right zl];simpa using hgr) (by
   rw[List.getElem_append_right zl];simp only[Nat.sub_self,List.getElem_cons_zero];rcases hat with j|j
   ·exact .inl j
   ·exact .inr ⟨_,j,zl⟩)
 have s:(vs++[rv]).set vs.length v'=vs++[v']:=by simp
 have x:(out++[row]).set vs.length (row++[c])=out++[row++[c]]:=by rw[d];simp
 rw[s,x]at f;have o:=e.kept hgr (Zbi k e (by decide));refine⟨{
  b0:=a _ _ _ (by omega) (by omega) hs.b0
  b1:=a _ _ _ (by omega) (by omega) hs.b1
  b5:=a _ _ _ (by omega) (by omega) hs.b5
  rows:=⟨vo,vs,v',a _ _ _ (by omega) (by omega) h1,Zvm o (by omega),y,Zqp f (by omega) _⟩
  b4:=a _ _ _ (by omega) (by omega) hs.b4
  bl:=hs.bl.trans (m gb (by omega))
  sz:=Nat.le_trans h l.size },l,m gb (by omega)⟩
theorem SecJ.push(hs:SecJ w gb g tg v out row op W){vo rv v':Value}{vs:List Value}(h1:Boxed W (gb+1+1) 78 vo)(h2:W.ownsRow (gb+7) 28 1 vo vs.length vs)(h3:Boxed W (gb+1+1+1) 28 rv)(h4:Fam W (gb+7) 3 (vs++[rv]) (out++[row]))
  {tmp:Obj} (hown:W1.ownsRow (gb+7) 28 1 v' (vs.length+1) (vs++[rv])) (hgr:(W.alloc tmp).grownBy W1 vo.ownBlock) :
  SecJ w gb g tg v (out++[row]) [] op ((W1.setCell ⟨gb+1+1,0,none⟩ v').setCell ⟨gb+1+1+1,0,none⟩ (.slice none 0 0))/\KeepsOthers W ((W1.setCell ⟨gb+1+1,0,none⟩ v').setCell ⟨gb+1+1+1,0,none⟩ (.slice none 0 0))/\Below gb W ((W1.setCell ⟨gb+1+1,0,none⟩ v').setCell ⟨gb+1+1+1,0,none⟩ (.slice none 0 0)) /\
  Boxed ((W1.setCell ⟨gb+1+1,0,none⟩ v').setCell ⟨gb+1+1+1,0,none⟩ (.slice none 0 0)) (gb+1+1) 78 v'/\((W1.setCell ⟨gb+1+1,0,none⟩ v').setCell ⟨gb+1+1+1,0,none⟩ (.slice none 0 0)).ownsRow (gb+7) 28 1 v' (vs++[rv]).length (vs++[rv]) /\
  Boxed ((W1.setCell ⟨gb+1+1,0,none⟩ v').setCell ⟨gb+1+1+1,0,none⟩ (.slice none 0 0)) (gb+1+1+1) 28 (.slice none 0 0)/\Fam ((W1.setCell ⟨gb+1+1,0,none⟩ v').setCell ⟨gb+1+1+1,0,none⟩ (.slice none 0 0)) (gb+7) 3 ((vs++[rv])++[.slice none 0 0]) ((out++[row])++[[]]):=by
 have d:=hs.sz;obtain⟨_,r,s,x,e,y⟩:=Zci (B:=gb+1+1) h1 (by omega) h2 d hown hgr;have a:∀n t u,n<gb+7->n≠gb+1+1->Boxed W n t u->Boxed (W1.setCell ⟨gb+1+1,0,none⟩ v') n t u:=y;have c:=h4.below ((zr W.heap.size W).alloc zl tmp) zl;have f:=zafq h2 ((zr W.heap.size W).alloc zl tmp) zl;have h:=c.kept hgr fun i hi=>Zbi f (c.own i hi (by rw[<- c.len];exact hi)) (by decide)
 have j:=(Zqp h (b:=gb+1+1) (by omega) v').snoc_nil;have k:=x.trans (KeepsOthers.setCell (W1.setCell ⟨gb+1+1,0,none⟩ v') ⟨gb+1+1+1,0,none⟩ (.slice none 0 0));have l:=r.other (B':=gb+1+1+1) (by omega) (.slice none 0 0);have m:=Zvm (u:=.slice none 0 0) (show(W1.setCell ⟨gb+1+1,0,none⟩ v').ownsRow (gb+7) 28 1 v' (vs++[rv]).length (vs++[rv]) by rw[zA];exact s) (show gb+1+1+1<gb+7 by omega);have o:=(a _ _ _ (by omega) (by omega) h3).set (.slice none 0 0);have q:=Zqp j (b:=gb+1+1+1) (by omega) (.slice none 0 0);refine⟨{
  b0:=(a _ _ _ (by omega) (by omega) hs.b0).other (by omega) _
  b1:=(a _ _ _ (by omega) (by omega) hs.b1).other (by omega) _
  b5:=(a _ _ _ (by omega) (by omega) hs.b5).other (by omega) _
  rows:=⟨v',vs++[rv],.slice none 0 0,l,m,o,q⟩
  b4:=(a _ _ _ (by omega) (by omega) hs.b4).other (by omega) _
  bl:=(hs.bl.trans (e gb (by omega))).setCell (p:=⟨gb+1+1+1,0,none⟩) (by show gb<=gb+1+1+1;omega) _
  sz:=Nat.le_trans d k.size },k,(e gb (by omega)).setCell (p:=⟨gb+1+1+1,0,none⟩) (by show gb<=gb+1+1+1;omega) _,l,m,o,q⟩
theorem SecJ.tell(hs:SecJ w gb g tg v out row op W){vo rv v':Value}{vs:List Value}(h1:Boxed W (gb+1+1) 78 vo)(h2:W.ownsRow (gb+7) 28 1 vo vs.length vs)(h4:Fam W (gb+7) 3 (vs++[rv]) (out++[row]))
  {tmp:Obj} (hown:W1.ownsRow (gb+7) 28 1 v' (vs.length+1) (vs++[rv])) (hgr:(W.alloc tmp).grownBy W1 vo.ownBlock) :
  Boxed (W1.setCell ⟨gb+1+1,0,none⟩ v') (gb+1+1) 78 v'/\(W1.setCell ⟨gb+1+1,0,none⟩ v').ownsRow (gb+7) 28 1 v' (vs.length+1) (vs++[rv])/\Fam (W1.setCell ⟨gb+1+1,0,none⟩ v') (gb+7) 3 (vs++[rv]) (out++[row]) /\
  Boxed (W1.setCell ⟨gb+1+1,0,none⟩ v') (gb+1+1+1+1) 4 (.bool op)/\KeepsOthers W (W1.setCell ⟨gb+1+1,0,none⟩ v')/\Below gb w (W1.setCell ⟨gb+1+1,0,none⟩ v'):=by
 have d:=hs.sz;obtain⟨_,e,f,h,j,k⟩:=Zci (B:=gb+1+1) h1 (by omega) h2 d hown hgr;have a:=h4.below ((zr W.heap.size W).alloc zl tmp) zl;have b:=zafq h2 ((zr W.heap.size W).alloc zl tmp) zl;have c:=a.kept hgr fun i hi=>Zbi b (a.own i hi (by rw[<- a.len];exact hi)) (by decide)
 exact⟨e,f,Zqp c (by omega) v',k _ _ _ (by omega) (by omega) hs.b4,h,hs.bl.trans (j gb (by omega))⟩
theorem own_prefix{base size n m:Nat}{e:TypeId}{a:Nat}{cap:Nat}{xs:List Value}(h:W.ownsRow base e size (.slice (some ⟨a,0,none⟩) n cap) n xs)(hm:m<=n):W.ownsRow base e size (.slice (some ⟨a,0,none⟩) m cap) m (xs.take (m*size)):=by
 rcases h.2 with⟨j,_⟩|⟨q,i,d,b,k,l,p,c,g,o⟩
 ·cases j
 injection b with b _ hc;injection b with b;injection b with b;subst b;subst hc;have f:m*size<=n*size:=Nat.mul_le_mul_right _ hm;refine⟨by rw[List.length_take,h.1];omega,.inr ⟨_,_,d,rfl,k,l,by omega,c,g,?_⟩⟩;rw[<- o,List.take_take,Nat.min_eq_left f]
theorem rowAt_of{base a:Nat}{vv:Value}{r:List Nat}(h:W.ownsRow base 3 1 vv r.length (r.map Words.encI))(hne:r≠[])(hf:r.length<=100000)(hs:∀c∈r,c<=100000){n cap:Nat}{vs:List Value}(ha:W.ownsRow base 28 1 (.slice (some ⟨a,0,none⟩) n cap) n vs):RowAt W a base (vv,r):=by
 obtain⟨b,c,m,k,g⟩:=Zbx h (List.length_pos_iff.2 hne);subst m;obtain⟨A,d,j,l⟩:=zaeq h;have o:c=d:=by injection j
 refine⟨hne,hf,hs,b,0,c,rfl,fun e=>?_,g,k,by show r.length<=c;omega,fun i hi=>?_⟩
 ·subst e;rcases Zbi ha h (by decide)with f|f
  ·cases f
  ·exact f rfl
 ·have hi:i<r.length:=hi;rw[Nat.zero_add,h.cellAt i (by omega),zJ,zG hi];rfl
theorem fam_last{base:Nat}{vs:List Value}{rv:Value}{Ls:List (List Nat)}{r:List Nat}(h4:Fam W base 3 (vs++[rv]) (Ls++[r])):W.ownsRow base 3 1 rv r.length (r.map Words.encI):=by
 have c:=h4.len;have b:vs.length=Ls.length:=by simp at c;exact c
 have a:=h4.own vs.length (by simp) (by simp[b]);rw[List.getElem_append_right zl]at a;simp only[Nat.sub_self,List.getElem_cons_zero]at a;have d:(Ls++[r])[vs.length]'(by simp[b])=r:=by simp[b]
 rw[d]at a;exact a
theorem own_add{base n cap:Nat}{e:TypeId}{a:Nat}{xs:List Value}(h:W.ownsRow base e 1 (.slice (some ⟨a,0,none⟩) n cap) n xs):∀(j:Nat) (u:Value),xs[j]? = some u->W.cell? ((⟨a,0,none⟩:Addr).add j)=some u:=fun j u hj=>by
 have d:=h.1;have c:=(zS.1 hj).1;have b:(⟨a,0,none⟩:Addr).add j=⟨a,j,none⟩:=by unfold Addr.add;simp;omega
 rw[b,h.cellAt j (by omega)];exact hj
theorem own_put0{base n cap:Nat}{e:TypeId}{a:Nat}{xs:List Value}(h:W.ownsRow base e 1 (.slice (some ⟨a,0,none⟩) n cap) n xs)(i:Nat)(u:Value):(W.setCell ⟨a,i,none⟩ u).ownsRow base e 1 (.slice (some ⟨a,0,none⟩) n cap) n (xs.set i u):=by
 refine⟨by rw[List.length_set];exact h.1,?_⟩;rcases h.2 with⟨b,_⟩|⟨q,l,d,b,m,o,j,f,k,p⟩
 ·cases b
 ·injection b with b _ c;injection b with b;injection b with b;subst b;subst c;have g:Bk W a e d.toList:=by unfold Bk;rw[o]
  have c:=g.set i u;unfold Bk at c;exact .inr ⟨a,cap,(d.toList.set i u).toArray,rfl,m,c,j,f,by simpa using k,by rw[<- p,List.take_set]⟩
theorem fam_tail{base:Nat}{v0 rv:Value}{vs:List Value}{r0 r:List Nat}{Ls:List (List Nat)}(h4:Fam W base 3 ((v0::vs)++[rv]) ((r0::Ls)++[r])){W':World}(hg:W.grownBy W' rv.ownBlock):Fam W' base 3 vs Ls:=by
 have b:=h4.len;have c:vs.length=Ls.length:=by simp at b;exact b
 refine⟨c,fun i h1 h2=>?_,fun i j h1 h2 hne=>?_⟩
 ·have h:=h4.own (i+1) (by simp;omega) (by simp;omega);have a:=h4.apart (i+1) (vs.length+1) (by simp;omega) (by simp) (by omega);simp only[List.cons_append,List.getElem_cons_succ]at h a;rw[List.getElem_append_left h1,List.getElem_append_left h2]at h;rw[List.getElem_append_left h1,List.getElem_append_right zl]at a;simp only[Nat.sub_self,List.getElem_cons_zero]at a;exact h.kept hg a
 ·have a:=h4.apart (i+1) (j+1) (by simp;omega) (by simp;omega) (by omega);simp only[List.cons_append,List.getElem_cons_succ]at a;rw[List.getElem_append_left h1,List.getElem_append_left h2]at a;exact a
theorem fam_rowAt{base a n cap:Nat}{vs vo:List Value}{Ls:List (List Nat)}(h:Fam W base 3 vs Ls)(hg:∀r∈Ls,r≠[]/\r.length<=50000/\∀c∈r,c<=50000)(ha:W.ownsRow base 28 1 (.slice (some ⟨a,0,none⟩) n cap) n vo) :
  ∀(i:Nat) (v:Value) (L:List Nat),vs[i]? = some v->Ls[i]? = some L->RowAt W a base (v,L):=fun i v L h1 h2=>by
 obtain⟨d,rfl⟩:=zS.1 h1;obtain⟨b,rfl⟩:=zS.1 h2;obtain⟨e,g,f⟩:=hg _ (zM b);exact rowAt_of (h.own i d b) e (by omega) (fun c hc=>by have:=f c hc;omega) ha
theorem Zvn{base a n cap size:Nat}{e:TypeId}{vo:List Value}(ha:W.ownsRow base e size (.slice (some ⟨a,0,none⟩) n cap) n vo):∀(j:Nat) (o:Obj),some a=some j->W.heap[j]? = some o->o.isCells=true:=fun j o e1 e2=>by
 injection e1 with e1;subst e1;rcases ha.2 with⟨d,_⟩|⟨h,c,g,b,i,f,_⟩
 ·cases d
 injection b with b;injection b with b;injection b with b;subst b;rw[f]at e2;cases e2;rfl
theorem Zzf{D:Nat}{o o':Obj}(hK:W.heap[D]? = some o)(ho:o.isCells=false){a:Addr}{u:Value}(h:W.cell? a=some u):(W.putObj D o').cell? a=some u:=by
 have b:a.block≠D:=fun e=>by
  unfold World.cell? at h;rw[e,hK]at h;cases o<;>first|(cases ho;done)|(cases h;done)
 unfold World.cell? at h ⊢;rw[World.putObj_heap_other b];exact h
def Fresh(w:World)(lo:Nat)(v:Value)(S:List (List Nat)):Prop :=
 ∃a cap,v=.slice (some ⟨a,0,none⟩) S.length cap/\S.length<=cap/\lo<=a/\a<w.heap.size /\
  ∀i (h:i<S.length),∃b o c,w.cell? ⟨a,i,none⟩=some (.slice (some ⟨b,o,none⟩) S[i].length c)/\lo<=b/\b<w.heap.size/\S[i].length<=c/\S[i].length<=100000/\∀j (h':j<S[i].length),w.cell? ⟨b,o+j,none⟩=some (.int .i64 (S[i][j]:Int))
theorem Zc5{w w':World}{a:Addr}(h:w'.heap[a.block]? = w.heap[a.block]?):w'.cell? a=w.cell? a:=by unfold World.cell?;rw[h]
theorem rows_back{a cap n D:Nat}{o o':Obj}{W4:World}{base lo:Nat}{vs:List Value}{Ls:List (List Nat)}(hlo:lo<=base)(hown:W.ownsRow base 28 1 (.slice (some ⟨a,0,none⟩) n cap) n vs)(hl:Ls.length=n)(hg:W4.grownBy W (some a))
  (hr:∀(i:Nat) (v:Value) (L:List Nat),vs[i]? = some v->Ls[i]? = some L->RowAt W4 a base (v,L)) (hK:W.heap[D]? = some o) (ho:o.isCells=false) :
  Fresh (W.putObj D o') lo (.slice (some ⟨a,0,none⟩) n cap) Ls:=by
 have w:(W.putObj D o').heap.size=W.heap.size:=by unfold World.putObj;simp
 obtain⟨A,d,k,q⟩:=zaeq hown;have t:cap=d:=by injection k
 have r:=hown.lt a rfl;refine⟨a,cap,by rw[hl],by omega,by omega,by omega,fun i hi=>?_⟩;have s:vs.length=n:=by have:=hown.1;omega
 obtain⟨b,off,c,h,l,m,u,f,g⟩:=(hr i _ _ (zG (by omega:i<vs.length)) (zG hi)).at_;simp only[]at h f g;refine⟨b,off,c,Zzf hK ho (by rw[hown.cellAt i (by omega),zG (by omega),h]),by omega,by have:=hg.size;omega,f,(hr i _ _ (zG (by omega:i<vs.length)) (zG hi)).few,fun j hj=>Zzf hK ho ?_⟩;have p:=g j hj;rw[<- p];exact Zc5 (hg.block b m (fun e=>l (by injection e)))
end
theorem merged{W4 w2:World}{base gr cap' b:Nat}{v0 rv va:Value}{vs2:List Value}{r0 row:List Nat}{out2:List (List Nat)}(hb:b<base)(u:Value)
  (hk2:W4.ownsRow base 28 1 (.slice (some ⟨gr,0,none⟩) (vs2.length+1+1) cap') (vs2.length+1+1) ((v0::vs2)++[rv]))
  (h4:Fam W4 base 3 ((v0::vs2)++[rv]) ((r0::out2)++[row])) (hgr2:W4.drew.grownBy w2 rv.ownBlock)
  (hown2:w2.ownsRow base 3 1 va (row.length+r0.length) (row.map Words.encI++r0.map Words.encI))
  (hg:∀r∈(r0::out2)++[row],r≠[]/\r.length<=50000/\∀c∈r,c<=50000) :
  ∃vs9:List Value,vs9.length=vs2.length+1/\((w2.setCell ⟨gr,0,none⟩ va).setCell ⟨b,0,none⟩ u).ownsRow base 28 1 (.slice (some ⟨gr,0,none⟩) (vs2.length+1) cap') (vs2.length+1) vs9 /\
   ∀(i:Nat) (v:Value) (L:List Nat),vs9[i]? = some v->((row++r0)::out2)[i]? = some L->RowAt ((w2.setCell ⟨gr,0,none⟩ va).setCell ⟨b,0,none⟩ u) gr base (v,L):=by
 have n:Fam W4.drew base 3 ((v0::vs2)++[rv]) ((r0::out2)++[row]):=⟨h4.len,fun i a d=>Zdl (h4.own i a d),h4.apart⟩;have l:=fam_tail n hgr2;have f:=(Zdl hk2).kept hgr2 (Zbi (Zdl (fam_last h4)) (Zdl hk2) (by decide));have g:=Zvm (u:=u) (own_put0 f 0 va) hb;have o:=Zvm (hown2.kept (grownBy_setCell' w2 gr va) (Zbi f hown2 (by decide))) (u:=u) hb;have q:=Zqp (l.kept (grownBy_setCell' w2 gr va) fun i hi=>Zbi f (l.own i hi (by rw[<- l.len];exact hi)) (by decide)) hb u;have j:=own_prefix g (m:=vs2.length+1) (by omega);have p:=hg r0 (by simp);have k:=hg row (by simp);refine⟨va::vs2,rfl,?_,?_⟩
 ·have e:List.take ((vs2.length+1)*1) ((v0::vs2++[rv]).set 0 va)=va::vs2:=by simp
  rw[e]at j;exact j
 ·intro i v L a d;cases i with
  | zero =>
   injection a with a;injection d with d;subst a;subst d;refine rowAt_of (r:=row++r0) (by rw[zA,List.map_append];exact o) (by have:=k.1;simp[this]) (by rw[zA];omega) ?_ g;intro c s;rcases zP.1 s with h|h
   ·have:=k.2.2 c h;omega
   ·have:=p.2.2 c h;omega
  | succ i=>exact fam_rowAt q (fun r hr=>hg r (by simp[hr])) g i v L a d
