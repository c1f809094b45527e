/- Regions that draw their order, where more than once several. -/
import Derived.Test.YtpbdcppaiafbgaaGreatCanon
import Derived.RangeFuncCalls
import Derived.TacticsIn
namespace Go.Canon
open Go
section tree
variable {P : Program} {Q : Exit -> Act -> World -> Prop}
inductive Tr where
 | fin
 | seg (ks:List Nat) (t:Tr)
 | alt (k:Nat) (t:Tr) (or:Tr)
 | no
def Tr.path:Tr->List Nat
 | .fin=>[]
 | .seg ks t=>ks++t.path
 | .alt k t _=>k::t.path
 | .no=>[]
def Tr.depth:Tr->Nat
 | .fin=>0
 | .seg ks t=>ks.length+t.depth
 | .alt _ t or=>max (t.depth+1) or.depth
 | .no=>0
def Tr.heads:Tr->List Nat
 | .alt k _ or=>k::or.heads
 | _=>[]
def okSeg(P:Program)(l:List Oper)(fl:List Nat):List Nat->Array Bool->Bool
 | [],_=>true
 | k::ks,listed=>stepB P l.toArray fl k listed&&okSeg P l fl ks (listed.setIfInBounds k true)
def setAll:List Nat->Array Bool->Array Bool
 | [],listed=>listed
 | k::ks,listed=>setAll ks (listed.setIfInBounds k true)
def okTr(P:Program)(l:List Oper)(fl:List Nat):Tr->Array Bool->Bool->Bool
 | .fin,listed,b=>!b&&(Region.ready .any l.toArray listed).isEmpty
 | .no,_,b=>b
 | .seg ks t,listed,b=>!b&&okSeg P l fl ks listed&&ks.all (decide <| · < l.length)&&ssaB l (ks++t.path)&&okTr P l fl t (setAll ks listed) false
 | .alt k t or,listed,b=>(b || (Region.ready .any l.toArray listed).all fun j=>(k::or.heads).contains j)&&(Region.ready .any l.toArray listed).contains k&&decide (k<l.length) && !Zck P (l.getD k default)&&ssaB l (k::t.path) &&
   okTr P l fl t (listed.setIfInBounds k true) false&&okTr P l fl or listed true
def wpTr(P:Program)(l:List Oper)(fl:List Nat)(U:Nat->Prop)(w0:World)(Q:Exit->Act->World->Prop):Tr->Act->World->Prop
 | .fin,a,w=>(l.all (Zg4 a)=true/\∀k∈fl,FlOk U w0 (l.getD k default) a)/\Q .normal a w
 | .no,_,_=>True
 | .seg ks t,a,w=>wpList P l.toArray (SegQ (wpTr P l fl U w0 Q t)) (ks.map fun k=>l.getD k default) a w
 | .alt k t or,a,w=>wpList P l.toArray (SegQ fun a' w'=>KeepU U w0 w'/\wpTr P l fl U w0 Q t a' w') [l.getD k default] a w/\wpTr P l fl U w0 Q or a w
theorem reachT{l:List Oper}{fl:List Nat}{U:Nat->Prop}{w0:World}(φ:Act->Prop)(hQ:∀a,(l.all (Zg4 a)=true/\∀k∈fl,FlOk U w0 (l.getD k default) a)->φ a)
  (hdef:∀a d,φ { a with defers:=d }->φ a):∀(t:Tr) (listed:Array Bool) (a:Act) (w:World),okTr P l fl t listed false=true->(∀k∈t.path,∀a v,φ (a.put (l.getD k default).dst v)->φ a) ->
  wpTr P l fl U w0 Q t a w->φ a
 | .fin,_,a,w,_,_,h=>hQ a h.1
 | .no,_,_,_,ho,_,_=>by simp[okTr]at ho
 | .seg ks t,listed,a,w,ho,hput,h=>by
  simp only[okTr,Bool.and_eq_true]at ho;refine reach (ops:=l.toArray) φ (fun a w hh=>reachT φ hQ hdef t _ a w ho.2 (fun k c=>hput k (List.mem_append_right _ c)) hh) (fun e a w hh=>?_) hdef _ a w (fun o b=>?_) h
  ·cases e<;>first|rfl|exact hh.elim
  ·obtain⟨k,c,rfl⟩:=zB.1 b;exact hput k (List.mem_append_left _ c)
 | .alt k t or,listed,a,w,ho,hput,h=>by
  simp only[okTr,Bool.and_eq_true]at ho;refine reach (ops:=l.toArray) φ (fun a w hh=>reachT φ hQ hdef t _ a w ho.1.2 (fun k c=>hput k (List.mem_cons_of_mem _ c)) hh.2) (fun e a w hh=>?_) hdef _ a w (fun o b=>?_) h.1
  ·cases e<;>first|rfl|exact hh.elim
  ·have b:o=l.getD k default:=by simpa using b
   subst b;exact hput k List.mem_cons_self
theorem Zi7{l:List Oper}{k:Nat}{ks:List Nat}{R:Act->World->Prop}{a:Act}{w:World}(hk:k<l.length)(h:wpList P l.toArray (SegQ R) ((k::ks).map fun k=>l.getD k default) a w) :
  wpOp P l.toArray (NQ Q) k (fun d b=>wpList P l.toArray (SegQ R) (ks.map fun k=>l.getD k default) d b) a w:=by
 have f:l.toArray[k]? = some (l.getD k default):=by simp[List.getD,hk]
 unfold wpOp;simp only[f];simp only[List.map_cons]at h;unfold wpList at h;by_cases g:Region.wanted (l.getD k default) (yielded l.toArray a.tmps)=true
 ·rw[if_pos g]at h ⊢;rcases h with h|⟨_,d,b,h⟩
  case inr=>exact h.elim
  refine .inl ?_;unfold Oper.wp at h ⊢;generalize (execOp a.eval (l.getD k default)).run P w=r at *;cases r with
  | ok n b =>
   cases n<;>simp only[Oper.upon]at h ⊢ <;> first
    | exact h
    | (
      refine Calls.mono h fun e w'' he=>?_
      cases e with
      | returned u=>exact he
      | panicked c=>exact he
      | outgrown=>obtain⟨d,b,h⟩:=he;exact h.elim)
  | halt x b=>cases x<;>simp only[Oper.upon]at h ⊢ <;> exact h
 ·rw[if_neg g]at h ⊢;exact h
theorem at_op{l:List Oper}{fl:List Nat}{U:Nat->Prop}{w0:World}{k:Nat}{rest:List Nat}{a:Act}(hk:k<l.length)(hS:((k::rest).all (fun k'=>match (l.getD k' default).dst with|some d=>!(Znx (l.getD k default)).contains d|none=>true))=true)
  (H:∀φ:Act->Prop,(∀a,(l.all (Zg4 a)=true/\∀k∈fl,FlOk U w0 (l.getD k default) a)->φ a)->(∀a d,φ { a with defers:=d }->φ a)->(∀k'∈k::rest,∀a v,φ (a.put (l.getD k' default).dst v)->φ a)->φ a) :
  Zg4 a (l.getD k default)=true/\(fl.contains k=true->FlOk U w0 (l.getD k default) a):=by
 have c:l.getD k default∈l:=by
  have:l.getD k default=l[k]:=by simp[List.getD,hk]
  rw[this];exact zM hk
 have b:∀k'∈k::rest,∀d,(l.getD k' default).dst=some d->d ∉ Znx (l.getD k default):=fun k' hk' d hd=>by
  have e:=List.all_eq_true.1 hS k' hk';rw[hd]at e;simpa using e
 refine⟨?_,fun hfl=>?_⟩
 ·refine H (fun a=>Zg4 a (l.getD k default)=true) (fun a hc=>List.all_eq_true.1 hc.1 _ c) (fun a d h=>h) (fun k' hk' a v hv=>?_);rw[Ztm (b k' hk')]at hv;exact hv
 ·exact H (fun a=>FlOk U w0 (l.getD k default) a) (fun a hc=>hc.2 k (by simpa using hfl)) (fun a d h=>by
   unfold FlOk at h ⊢;exact h) (fun k' hk' a v hv=>flOk_put (b k' hk') hv)
theorem Zp5{l:List Oper}{fl:List Nat}{U:Nat->Prop}{w0:World}(hs:Region.noSelect l.toArray=true):∀(t:Tr),
  (∀(f:Nat) (b:Array Bool) (a:Act) (w:World),t.depth<=f->Closed l.toArray b->KeepU U w0 w->okTr P l fl t b false=true->wpTr P l fl U w0 Q t a w->Zqc P l.toArray Q U w0 f b a w) /\
  (∀(f:Nat) (b:Array Bool) (a:Act) (w:World),t.depth<=f+1->Closed l.toArray b->KeepU U w0 w->okTr P l fl t b true=true->wpTr P l fl U w0 Q t a w ->
   ∀j∈t.heads,wpOp P l.toArray (NQ Q) j (fun a' w'=>((∀oj,l.toArray[j]? = some oj->Zck P oj=true->w'=w)/\KeepU U w0 w')/\Zqc P l.toArray Q U w0 f (b.setIfInBounds j true) a' w') a w)
 | .fin=>by
  refine⟨fun f b a w _ _ _ c h=>?_,fun f b a w _ _ _ _ _ j d=>by cases d⟩;have B:Region.ready .any l.toArray b=[]:=by simpa[okTr]using c
  cases f with
  | zero=>exact⟨B,h.2⟩
  | succ f=>exact⟨fun _=>h.2,fun j d=>by rw[B]at d;cases d⟩
 | .no=>⟨fun f b a w _ _ _ c _=>by simp[okTr]at c,fun f b a w _ _ _ _ _ j d=>by cases d⟩
 | .seg ks t=>by
  refine⟨?_,fun f b a w _ _ _ _ _ j d=>by cases d⟩;have E:=(Zp5 (fl:=fl) (U:=U) (w0:=w0) hs t).1;intro f b a w i m q c h;simp only[okTr,Bool.and_eq_true,Bool.not_false,true_and]at c;obtain⟨⟨⟨c,g⟩,z⟩,p⟩:=c;simp only[Tr.depth]at i
  change wpList P l.toArray (SegQ (wpTr P l fl U w0 Q t)) (ks.map fun k=>l.getD k default) a w at h
  induction ks generalizing f b a w with
  | nil=>exact E f b a w (by simpa using i) m q p h
  | cons k ks ihk =>
   simp only[okSeg,Bool.and_eq_true]at c;simp only[List.all_cons,Bool.and_eq_true,decide_eq_true_eq]at g;simp only[List.cons_append,ssaB,Bool.and_eq_true]at z;have r:l.toArray[k]? = some (l.getD k default):=by simp[List.getD,g.1]
   obtain⟨s,o,n,N,K,H⟩:=Znk (Q:=Q) (a:=a) q c.1;have J:o=l.getD k default:=zO (n.symm.trans r);have x:=at_op (fl:=fl) (U:=U) (w0:=w0) (a:=a) g.1 z.1 (fun φ hφ hdef hput=>by
    refine reach (P:=P) (ops:=l.toArray) φ (fun a w hh=>reachT (P:=P) (Q:=Q) φ hφ hdef t _ a w p (fun k A=>hput k (by simp[A])) hh) (fun e a w hh=>?_) hdef _ a w (fun o hom=>?_) h
    ·cases e<;>first|rfl|exact hh.elim
    ·obtain⟨S,G,rfl⟩:=zB.1 hom;exact hput S (by rcases List.mem_cons.1 G with h|h<;>simp[h]))
   rw[<- J]at x;obtain⟨v,R,L,C⟩:=H _ x.1 x.2 (Zi7 g.1 h);cases f with
   | zero=>simp at i
   | succ f=>exact first n (Region.noSelect_spec hs) f b a w m q (Region.free_spec n N) s R L (ihk f _ _ _ (by simp only[List.length_cons]at i;omega) (m.set s) q p z.2 c.2 g.2 C)
 | .alt k t or=>by
  have E:=(Zp5 (fl:=fl) (U:=U) (w0:=w0) hs t).1;have M:=(Zp5 (fl:=fl) (U:=U) (w0:=w0) hs or).2;have u:∀(f:Nat) (b:Array Bool) (a:Act) (w:World),(Tr.alt k t or).depth<=f+1->Closed l.toArray b->KeepU U w0 w->okTr P l fl (.alt k t or) b true=true->wpTr P l fl U w0 Q (.alt k t or) a w ->
   ∀j∈(Tr.alt k t or).heads,wpOp P l.toArray (NQ Q) j (fun a' w'=>((∀oj,l.toArray[j]? = some oj->Zck P oj=true->w'=w)/\KeepU U w0 w')/\Zqc P l.toArray Q U w0 f (b.setIfInBounds j true) a' w') a w:=by
   intro f b a w i m q c h j d;simp only[okTr,Bool.and_eq_true,Bool.true_or,true_and,Bool.not_eq_true',decide_eq_true_eq]at c;obtain⟨⟨⟨⟨⟨B,g⟩,K⟩,z⟩,p⟩,n⟩:=c;simp only[Tr.depth]at i;rcases List.mem_cons.1 d with rfl|d
   ·have r:l.toArray[j]? = some (l.getD j default):=by simp[List.getD,g]
    have s:j∈Region.ready .any l.toArray b:=by simpa using B
    refine wpOp_mono (fun a' w' h'=>?_) (Zi7 (ks:=[]) g h.1);obtain⟨D,O⟩:=h';refine⟨⟨fun oj hoj hqj=>?_,D⟩,E f _ a' w' (by omega) (m.set s) D p O⟩;have:oj=l.getD j default:=zO (hoj.symm.trans r);rw[this,K]at hqj;cases hqj
   ·exact M f b a w (by omega) m q n h.2 j d
  refine⟨fun f b a w i m q c h=>?_,u⟩;have T:=c;simp only[okTr,Bool.and_eq_true,Bool.false_or]at c;have y:=c.1.1.1.1.1.1;have A:k∈Region.ready .any l.toArray b:=by simpa using c.1.1.1.1.1.2
  have I:okTr P l fl (.alt k t or) b true=true:=by
   simp only[okTr,Bool.and_eq_true,Bool.true_or,true_and];exact⟨⟨⟨⟨⟨c.1.1.1.1.1.2,c.1.1.1.1.2⟩,c.1.1.1.2⟩,c.1.1.2⟩,c.1.2⟩,c.2⟩
  cases f with
  | zero=>simp only[Tr.depth]at i;omega
  | succ f =>
   refine⟨fun h0=>(by rw[h0]at A;cases A),fun j d=>?_⟩;have F:=List.all_eq_true.1 y j d;exact u f b a w i m q I h j (by simpa[Tr.heads]using F)
def treeB(P:Program)(l:List Oper)(fl:List Nat)(t:Tr):Bool:=Region.noSelect l.toArray&&okTr P l fl t (Array.replicate l.length false) false&&decide (t.depth<=l.length)
theorem wp_region_tree{id:Nat}{l:List Oper}{a:Act}{w:World}(fl:List Nat)(U:Nat->Prop)(t:Tr)(hm:P.follows .mixedOrders=true)(hc:treeB P l fl t=true)
  (h:wpTr P l fl U w.drew Q t a w.drew):(Code.region id l.toArray true).wp P Q a w:=by
 simp only[treeB,Bool.and_eq_true,decide_eq_true_eq]at hc;obtain⟨⟨f,c⟩,d⟩:=hc;have b:=(Zp5 (P:=P) (Q:=Q) (fl:=fl) (U:=U) (w0:=w.drew) f t).1 l.length (Array.replicate l.length false) a w.drew d (Zc3 _) (fun _ _=>rfl) c h;refine Code.wp_mono (Q:=NQ Q) (fun e a w h=>?_) (wp_region_any hm (Zhz _ _ _ _ (by simpa using b)));cases e<;>first|exact h|exact h.elim
section
variable {l : List Oper} {fl : List Nat} {U : Nat -> Prop} {w0 : World} {a : Act} {w : World}
theorem tr_seg{ks:List Nat}{t:Tr}(h:wpList P l.toArray (SegQ (wpTr P l fl U w0 Q t)) (ks.map fun k=>l.getD k default) a w):wpTr P l fl U w0 Q (.seg ks t) a w:=h
theorem tr_to{K:Act->World->Prop}(h:K a w):SegQ K .normal a w:=h
theorem tr_alt{k:Nat}{t or:Tr}(h:wpList P l.toArray (SegQ fun a' w'=>KeepU U w0 w'/\wpTr P l fl U w0 Q t a' w') [l.getD k default] a w)(h2:wpTr P l fl U w0 Q or a w):wpTr P l fl U w0 Q (.alt k t or) a w:=⟨h,h2⟩
theorem tr_one{k:Nat}{t:Tr}(h:wpList P l.toArray (SegQ fun a' w'=>KeepU U w0 w'/\wpTr P l fl U w0 Q t a' w') [l.getD k default] a w):wpTr P l fl U w0 Q (.alt k t .no) a w:=⟨h,trivial⟩
theorem tr_no:wpTr P l fl U w0 Q .no a w:=trivial
theorem tr_end{t:Tr}(h1:KeepU U w0 w)(h2:wpTr P l fl U w0 Q t a w):SegQ (fun a' w'=>KeepU U w0 w'/\wpTr P l fl U w0 Q t a' w') .normal a w:=⟨h1,h2⟩
theorem tr_fin(h1:l.all (Zg4 a)=true)(h2:∀k∈fl,FlOk U w0 (l.getD k default) a)(hQ:Q .normal a w):wpTr P l fl U w0 Q .fin a w:=⟨⟨h1,h2⟩,hQ⟩
end
end tree
open Go
section inround
variable {P : Program} {Q : Exit -> Act -> World -> Prop}
def Zix(l:List Oper):Bool:=l.all fun o=>match o.op with | .defer _=>false|_=>true
theorem noDefers_at{l:List Oper}(h:Zix l=true){i:Nat}{o:Oper}(hi:l.toArray[i]? = some o):∀c,o.op≠.defer c:=by
 intro c a;have b:o∈l:=List.mem_of_getElem? (by simpa using hi);have:=List.all_eq_true.1 h o b;rw[a]at this;cases this
def Wide(F:Fence):Prop:=F=Fence.wide\/∃l,F=Fence.wide.inRound l
theorem wide_wide:Wide Fence.wide:=.inl rfl
theorem wide_round(l:Nat):Wide (Fence.wide.inRound l):=.inr ⟨l,rfl⟩
theorem Wide.fn{F:Fence}(h:Wide F)(f:FuncId):F.fn f:=by rcases h with rfl|⟨l,rfl⟩<;>trivial
theorem Wide.depth{F:Fence}(h:Wide F):F.depth=none:=by rcases h with rfl|⟨l,rfl⟩<;>rfl
theorem Wide.calls{F:Fence}(h:Wide F){n:Nat}{f:FuncId}{args:Array Value}{w:World}{R:Ending->World->Prop}(hc:Calls P f args w R):CallsIn F n P f args w R:=by
 rcases h with rfl|⟨l,rfl⟩
 ·exact callsIn_wide.2 hc
 ·exact CallsIn.inRound l (callsIn_wide.2 hc)
theorem Wide.fenced{F:Fence}(h:Wide F):Machine.fenced P F=Machine.fenced P Fence.wide:=by
 rcases h with rfl|⟨l,rfl⟩
 ·rfl
 ·exact fenced_inRound P Fence.wide l
theorem Wide.rows{F:Fence}(h:Wide F){n:Nat}{row:String}{args:Array Value}{w:World}{R:Value->World->Prop}(hc:Rows P row args w R):RowsIn F n P row args w R:=by
 intro c a _;obtain⟨v,e,b,d⟩:=hc c a;exact⟨v,e,b,by rw[h.fenced];exact stepsIn_wide.2 d⟩
theorem Wide.sem{F:Fence}(h:Wide F){o:Oper}(ho:∀c,o.op≠.defer c)(ρ:Operand->Value):o.semAt F.round ρ=execOp ρ o:=by
 rcases h with rfl|⟨l,rfl⟩
 ·rfl
 ·exact Oper.semAt_some l ρ o ho
theorem Wide.oper{F:Fence}(h:Wide F){n:Nat}{o:Oper}(ho:∀c,o.op≠.defer c){a:Act}{w:World}{K:Act->World->Prop}(hw:o.wp P a w K Q):o.wpIn F n P a w K Q:=by
 refine⟨fun f _=>h.fn f,?_⟩;rw[h.sem ho];unfold Oper.wp at hw;generalize (execOp a.eval o).run P w=r at *;have b:F.depth.isSome=true->1<=n:=fun h9=>by rw[h.depth]at h9;cases h9
 cases r with
 | ok x w' =>
  cases x<;>simp only[Oper.upon,Oper.uponIn]at hw ⊢ <;> first
   | exact hw
   | exact hw.elim
   | exact⟨b,h.calls hw⟩
   | exact⟨b,h.rows hw⟩
 | halt x w'=>cases x<;>simp only[Oper.upon,Oper.uponIn]at hw ⊢ <;> exact hw
theorem Wide.ops{F:Fence}(h:Wide F){n:Nat}{l:List Oper}(hl:Zix l=true)(hq:¬LetsOut Q):∀(ord:List Nat) (a:Act) (w:World),wpOps P l.toArray Q ord a w->wpOpsIn F n P l.toArray Q ord a w
 | [],_,_,b=>b
 | i::rest,a,w,b=>by
  unfold wpOpsIn;unfold wpOps at b;cases hi:l.toArray[i]? with
  | none =>
   simp only[hi]at b ⊢;exact h.ops hl hq rest a w b
  | some o =>
   simp only[hi]at b ⊢;by_cases c:Region.wanted o (yielded l.toArray a.tmps)=true
   ·rw[if_pos c]at b ⊢;rcases b with b|b
    case inr=>exact absurd b.2 hq
    exact h.oper (noDefers_at hl hi) (Oper.wp_mono (fun a w h9=>h.ops hl hq rest a w h9) b)
   ·rw[if_neg c]at b ⊢;exact⟨fun f _=>h.fn f,h.ops hl hq rest _ w b⟩
theorem Wide.region_any{F:Fence}(h:Wide F){n id:Nat}{l:List Oper}{a:Act}{w:World}(hl:Zix l=true)(hm:P.follows .mixedOrders=true)
  (hw:wpAny P .any l.toArray (NQ Q) l.toArray.size (Array.replicate l.toArray.size false) a w.drew):(Code.region id l.toArray true).wpIn F n P Q a w:=by
 refine Go.Code.wpIn_mono (Q:=NQ Q) (fun e a w h=>?_) (wpIn_region_draw fun t=>h.ops hl (fun h9=>NQ.out h9) _ _ _ ?_)
 ·cases e<;>first|exact h|exact h.elim
 ·simp only[Region.schedule,hm,Bool.true_or,if_true];exact wpAny_sound l.toArray.size t _ a _ hw
theorem Wide.region_tree{F:Fence}(h9:Wide F){n id:Nat}{l:List Oper}{a:Act}{w:World}(fl:List Nat)(U:Nat->Prop)(t:Tr)(hl:Zix l=true)(hm:P.follows .mixedOrders=true)(hc:treeB P l fl t=true)
  (h:wpTr P l fl U w.drew Q t a w.drew):(Code.region id l.toArray true).wpIn F n P Q a w:=by
 simp only[treeB,Bool.and_eq_true,decide_eq_true_eq]at hc;obtain⟨⟨e,c⟩,d⟩:=hc;have b:=(Zp5 (P:=P) (Q:=Q) (fl:=fl) (U:=U) (w0:=w.drew) e t).1 l.length (Array.replicate l.length false) a w.drew d (Zc3 _) (fun _ _=>rfl) c h;exact h9.region_any hl hm (Zhz _ _ _ _ (by simpa using b))
theorem Wide.region_canon{F:Fence}(h9:Wide F){n id:Nat}{l:List Oper}{a:Act}{w:World}(ord:List Nat)(hl:Zix l=true)(hm:P.follows .mixedOrders=true)(hc:Zxo P l ord=true)
  (h:wpList P l.toArray (ChkQ l Q) (ord.map fun k=>l.getD k default) a w.drew):(Code.region id l.toArray true).wpIn F n P Q a w:=by
 simp only[Zxo,Bool.and_eq_true,beq_iff_eq]at hc;obtain⟨⟨⟨⟨i,f⟩,g⟩,e⟩,b⟩:=hc;have c:∀k∈ord,k<l.length:=fun k hk=>by simpa using List.all_eq_true.1 e k hk
 have d:=Zlm (P:=P) (Q:=Q) (U:=noKeep) (w0:=w.drew) i ord (Array.replicate l.length false) a w.drew (Zc3 _) (fun _ hb=>hb.elim) f (Zke ord a _ c g h);rw[b]at d;exact h9.region_any hl hm (Zhz _ _ _ _ (by simpa using d))
end inround
open Go
section last
variable {P : Program} {ops : Array Oper} {Q : Exit -> Act -> World -> Prop}
def Tr.isFin:Tr->Bool
 | .fin=>true
 | _=>false
def Zwn(P:Program)(ops:Array Oper)(Q:Exit->Act->World->Prop)(m:Nat)(U:Nat->Prop)(w0:World):Nat->Array Bool->Act->World->Prop
 | 0,listed,a,w=>Region.ready .any ops listed=[]/\Q .normal a w
 | f+1,listed,a,w=>(Region.ready .any ops listed=[]->Q .normal a w) /\
  ∀j∈Region.ready .any ops listed,wpOp P ops (NQ Q) j (fun a' w'=>((∀oj,ops[j]? = some oj->Zck P oj=true->w'=w)/\(j≠m->KeepU U w0 w'))/\Zwn P ops Q m U w0 f (listed.setIfInBounds j true) a' w') a w
theorem Zyz{m:Nat}{U:Nat->Prop}{w0:World}:∀(f:Nat) (listed:Array Bool) (a:Act) (w:World),Zwn P ops Q m U w0 f listed a w->wpAny P .any ops (NQ Q) f listed a w
 | 0,_,_,_,h=>h
 | f+1,_,_,_,h=>⟨h.1,fun i hi=>wpOp_mono (fun a' w' h'=>Zyz f _ a' w' h'.2) (h.2 i hi)⟩
theorem firstM{m:Nat}{U:Nat->Prop}{w0:World}{i:Nat}{oi:Oper}{v:Value}(hi:ops[i]? = some oi)(hsel:∀(j:Nat) (o:Oper) cs b,ops[j]? = some o->o.op≠.select cs b) :
  ∀(f:Nat) (c:Array Bool) (a:Act) (w:World),Closed ops c->KeepU U w0 w ->
   (∀j g,ops[j]? = some g->j≠i->c.getD j true=false->(∀e∈g.after,Region.binds .any e=true->e.on≠i)->oi.apart ops g=true) ->
   (∀om,ops[m]? = some om->∃e∈om.after,Region.binds .any e=true/\e.on=i) ->
   i∈Region.ready .any ops c->YNow P ops oi v a w->(YieldsU P ops U w0 oi v a\/LoadOk P ops i c) ->
   Zwn P ops Q m U w0 f (c.setIfInBounds i true) (a.put oi.dst v) w->Zwn P ops Q m U w0 (f+1) c a w:=by
 intro f
 induction f with
 | zero =>
  intro c a w _ K _ _ r B _ H;refine⟨fun h=>(by rw[h]at r;cases r),fun j hj=>?_⟩;by_cases d:j=i
  ·subst d;exact B.wpOp hi ⟨⟨fun _ _ _=>rfl,fun _=>K⟩,H⟩
  ·have:=ready_mono hj d;rw[H.1]at this;cases this
 | succ f ih =>
  intro c a w N K s t r B E H;refine⟨fun h=>(by rw[h]at r;cases r),fun j hj=>?_⟩;by_cases d:j=i
  ·subst d;exact B.wpOp hi ⟨⟨fun _ _ _=>rfl,fun _=>K⟩,H⟩
  ·have T:=H.2 j (ready_mono hj d);obtain⟨q,g,l,F⟩:=mem_ready.1 hj;have y:=Zhh (mem_ready.1 r).1;have z:∀e∈g.after,Region.binds .any e=true->e.on≠i:=fun e J I heq=>by
    have A:=F e J I;rw[heq,y]at A;cases A
   have A:=wpOp_swap l (s j g l d q z) (fun cs b=>hsel i oi cs b hi) (fun cs b=>hsel j g cs b l) T;have x:∀k ok,ops[k]? = some ok->k≠i->(c.setIfInBounds j true).getD k true=false ->
     (∀e∈ok.after,Region.binds .any e=true->e.on≠i)->oi.apart ops ok=true:=fun k ok hk hki hun hno=>by
    refine s k ok hk hki ?_ hno;by_cases C:j=k
    ·subst C;exact q
    ·rw[getD_set_ne true C]at hun;exact hun
   refine wpOp_mono (fun a' w' h3=>?_) A;obtain⟨n,⟨R,p⟩,u⟩:=h3;have O:j≠m:=by
    intro S;subst S;obtain⟨e,J,I,V⟩:=t g l;exact z e J I V
   replace p:=p O
   refine⟨⟨R,fun _=>p⟩,?_⟩;rw[Array.setIfInBounds_comm _ _ (Ne.symm d)]at u;have L:YieldsU P ops U w0 oi v a'\/LoadOk P ops i (c.setIfInBounds j true):=E.imp (fun h=>h.view n) LoadOk.set;refine ih (c.setIfInBounds j true) a' w' (N.set hj) p x t (ready_mono r (Ne.symm d)) ?_ L u;cases D:Zck P g with
   | true=>rw[R g l D];exact B.view n
   | false =>
    rcases E with h|⟨G,W,X⟩
    ·exact(h.view n).now p
    ·have M:=X j g l D (Zqb W N y hj d);rw[Zhh q]at M;cases M
def Zlj(P:Program)(l:List Oper)(m:Nat)(fl:List Nat):Tr->Array Bool->Bool->Bool
 | .fin,listed,b=>!b&&(Region.ready .any l.toArray listed).isEmpty
 | .no,_,b=>b
 | .seg ks t,listed,b=>!b&&okSeg P l fl ks listed&&ks.all (decide <| · < l.length)&&ssaB l (ks++t.path)&&Zlj P l m fl t (setAll ks listed) false
 | .alt k t or,listed,b=>(b || (Region.ready .any l.toArray listed).all fun j=>(k::or.heads).contains j)&&(Region.ready .any l.toArray listed).contains k&&decide (k<l.length) && !Zck P (l.getD k default)&&ssaB l (k::t.path)&&(k != m || t.isFin) &&
   Zlj P l m fl t (listed.setIfInBounds k true) false&&Zlj P l m fl or listed true
def Zhp(P:Program)(l:List Oper)(m:Nat)(fl:List Nat)(U:Nat->Prop)(w0:World)(Q:Exit->Act->World->Prop):Tr->Act->World->Prop
 | .fin,a,w=>(l.all (Zg4 a)=true/\∀k∈fl,FlOk U w0 (l.getD k default) a)/\Q .normal a w
 | .no,_,_=>True
 | .seg ks t,a,w=>wpList P l.toArray (SegQ (Zhp P l m fl U w0 Q t)) (ks.map fun k=>l.getD k default) a w
 | .alt k t or,a,w=>wpList P l.toArray (SegQ fun a' w'=>(k≠m->KeepU U w0 w')/\Zhp P l m fl U w0 Q t a' w') [l.getD k default] a w/\Zhp P l m fl U w0 Q or a w
theorem reachM{l:List Oper}{m:Nat}{fl:List Nat}{U:Nat->Prop}{w0:World}(φ:Act->Prop)(hQ:∀a,(l.all (Zg4 a)=true/\∀k∈fl,FlOk U w0 (l.getD k default) a)->φ a)
  (hdef:∀a d,φ { a with defers:=d }->φ a):∀(t:Tr) (listed:Array Bool) (a:Act) (w:World),Zlj P l m fl t listed false=true->(∀k∈t.path,∀a v,φ (a.put (l.getD k default).dst v)->φ a) ->
  Zhp P l m fl U w0 Q t a w->φ a
 | .fin,_,a,w,_,_,h=>hQ a h.1
 | .no,_,_,_,ho,_,_=>by simp[Zlj]at ho
 | .seg ks t,listed,a,w,ho,hput,h=>by
  simp only[Zlj,Bool.and_eq_true]at ho;refine reach (ops:=l.toArray) φ (fun a w hh=>reachM φ hQ hdef t _ a w ho.2 (fun k c=>hput k (List.mem_append_right _ c)) hh) (fun e a w hh=>?_) hdef _ a w (fun o b=>?_) h
  ·cases e<;>first|rfl|exact hh.elim
  ·obtain⟨k,c,rfl⟩:=zB.1 b;exact hput k (List.mem_append_left _ c)
 | .alt k t or,listed,a,w,ho,hput,h=>by
  simp only[Zlj,Bool.and_eq_true]at ho;refine reach (ops:=l.toArray) φ (fun a w hh=>reachM φ hQ hdef t _ a w ho.1.2 (fun k c=>hput k (List.mem_cons_of_mem _ c)) hh.2) (fun e a w hh=>?_) hdef _ a w (fun o b=>?_) h.1
  ·cases e<;>first|rfl|exact hh.elim
  ·have b:o=l.getD k default:=by simpa using b
   subst b;exact hput k List.mem_cons_self
def lastB(P:Program)(l:List Oper)(m:Nat):Bool:=!Zck P (l.getD m default)&&(List.range l.length).all fun i=>i==m || !Zck P (l.getD i default)||(l.getD m default).after.any fun e=>Region.binds .any e&&e.on==i
theorem lastB_spec{l:List Oper}{m:Nat}(h:lastB P l m=true){i:Nat}(hi:i<l.length)(hq:Zck P (l.getD i default)=true):∀b,l.toArray[m]? = some b->∃e∈b.after,Region.binds .any e=true/\e.on=i:=by
 intro b a;simp only[lastB,Bool.and_eq_true,Bool.not_eq_true']at h;have d:=List.all_eq_true.1 h.2 i (zR.2 hi);have g:i≠m:=by
  intro e;rw[e,h.1]at hq;cases hq
 have n:b=l.getD m default:=by
  have a:l[m]? = some b:=by simpa using a
  rw[zD,a];rfl
 subst n;have f:(i==m)=false:=by simpa using g
 rw[f,hq,Bool.not_true,Bool.false_or,Bool.false_or,Array.any_eq_true]at d;obtain⟨j,k,c⟩:=d;simp only[Bool.and_eq_true,beq_iff_eq]at c;exact⟨_,Array.getElem_mem k,c.1,c.2⟩
theorem Zp6{l:List Oper}{m:Nat}{fl:List Nat}{U:Nat->Prop}{w0:World}(hs:Region.noSelect l.toArray=true)(hL:lastB P l m=true):∀(t:Tr),
  (∀(f:Nat) (b:Array Bool) (a:Act) (w:World),t.depth<=f->Closed l.toArray b->(t.isFin=true\/KeepU U w0 w)->Zlj P l m fl t b false=true->Zhp P l m fl U w0 Q t a w->Zwn P l.toArray Q m U w0 f b a w) /\
  (∀(f:Nat) (b:Array Bool) (a:Act) (w:World),t.depth<=f+1->Closed l.toArray b->KeepU U w0 w->Zlj P l m fl t b true=true->Zhp P l m fl U w0 Q t a w ->
   ∀j∈t.heads,wpOp P l.toArray (NQ Q) j (fun a' w'=>((∀oj,l.toArray[j]? = some oj->Zck P oj=true->w'=w)/\(j≠m->KeepU U w0 w'))/\Zwn P l.toArray Q m U w0 f (b.setIfInBounds j true) a' w') a w)
 | .fin=>by
  refine⟨fun f b a w _ _ _ d h=>?_,fun f b a w _ _ _ _ _ j g=>by cases g⟩;have E:Region.ready .any l.toArray b=[]:=by simpa[Zlj]using d
  cases f with
  | zero=>exact⟨E,h.2⟩
  | succ f=>exact⟨fun _=>h.2,fun j g=>by rw[E]at g;cases g⟩
 | .no=>⟨fun f b a w _ _ _ d _=>by simp[Zlj]at d,fun f b a w _ _ _ _ _ j g=>by cases g⟩
 | .seg ks t=>by
  refine⟨?_,fun f b a w _ _ _ _ _ j g=>by cases g⟩;have R:=(Zp6 (fl:=fl) (U:=U) (w0:=w0) hs hL t).1;intro f b a w n p c d h
  replace c:KeepU U w0 w:=by
   rcases c with c|c
   ·cases c
   ·exact c
  simp only[Zlj,Bool.and_eq_true,Bool.not_false,true_and]at d;obtain⟨⟨⟨d,i⟩,B⟩,r⟩:=d;simp only[Tr.depth]at n
  change wpList P l.toArray (SegQ (Zhp P l m fl U w0 Q t)) (ks.map fun k=>l.getD k default) a w at h
  induction ks generalizing f b a w with
  | nil=>exact R f b a w (by simpa using n) p (.inr c) r h
  | cons k ks ihk =>
   simp only[okSeg,Bool.and_eq_true]at d;simp only[List.all_cons,Bool.and_eq_true,decide_eq_true_eq]at i;simp only[List.cons_append,ssaB,Bool.and_eq_true]at B;have s:l.toArray[k]? = some (l.getD k default):=by simp[List.getD,i.1]
   obtain⟨u,o,q,hf,O,H⟩:=Znk (Q:=Q) (a:=a) c d.1;have J:o=l.getD k default:=zO (q.symm.trans s);have y:=at_op (fl:=fl) (U:=U) (w0:=w0) (a:=a) i.1 B.1 (fun φ hφ hdef hput=>by
    refine reach (P:=P) (ops:=l.toArray) φ (fun a w hh=>reachM (P:=P) (Q:=Q) φ hφ hdef t _ a w r (fun k D=>hput k (by simp[D])) hh) (fun e a w hh=>?_) hdef _ a w (fun o hom=>?_) h
    ·cases e<;>first|rfl|exact hh.elim
    ·obtain⟨k',V,rfl⟩:=zB.1 hom;exact hput k' (by rcases List.mem_cons.1 V with h|h<;>simp[h]))
   rw[<- J]at y;obtain⟨v,hy,Z,F⟩:=H _ y.1 y.2 (Zi7 i.1 h);cases f with
   | zero=>simp at n
   | succ f=>exact firstM (m:=m) q (Region.noSelect_spec hs) f b a w p c (Region.free_spec q hf) (lastB_spec hL i.1 (by rw[<- J];exact O)) u hy Z (ihk f _ _ _ (by simp only[List.length_cons]at n;omega) (p.set u) c r B.2 d.2 i.2 F)
 | .alt k t or=>by
  have R:=(Zp6 (fl:=fl) (U:=U) (w0:=w0) hs hL t).1;have a0:=(Zp6 (fl:=fl) (U:=U) (w0:=w0) hs hL or).2;have x:∀(f:Nat) (b:Array Bool) (a:Act) (w:World),(Tr.alt k t or).depth<=f+1->Closed l.toArray b->KeepU U w0 w->Zlj P l m fl (.alt k t or) b true=true->Zhp P l m fl U w0 Q (.alt k t or) a w ->
   ∀j∈(Tr.alt k t or).heads,wpOp P l.toArray (NQ Q) j (fun a' w'=>((∀oj,l.toArray[j]? = some oj->Zck P oj=true->w'=w)/\(j≠m->KeepU U w0 w'))/\Zwn P l.toArray Q m U w0 f (b.setIfInBounds j true) a' w') a w:=by
   intro f b a w n p c d h j g;simp only[Zlj,Bool.and_eq_true,Bool.true_or,true_and,Bool.not_eq_true',decide_eq_true_eq]at d;obtain⟨⟨⟨⟨⟨⟨E,i⟩,O⟩,B⟩,z⟩,r⟩,q⟩:=d;simp only[Tr.depth]at n;rcases List.mem_cons.1 g with rfl|g
   ·have s:l.toArray[j]? = some (l.getD j default):=by simp[List.getD,i]
    have u:j∈Region.ready .any l.toArray b:=by simpa using E
    refine wpOp_mono (fun a' w' h'=>?_) (Zi7 (ks:=[]) i h.1);obtain⟨K,ht⟩:=h';have Y:t.isFin=true\/KeepU U w0 w':=by
     by_cases G:j=m
     ·simp only[G,bne_self_eq_false,Bool.false_or]at z;exact .inl z
     ·exact .inr (K G)
    refine⟨⟨fun oj hoj hqj=>?_,K⟩,R f _ a' w' (by omega) (p.set u) Y r ht⟩;have:oj=l.getD j default:=zO (hoj.symm.trans s);rw[this,O]at hqj;cases hqj
   ·exact a0 f b a w (by omega) p c q h.2 j g
  refine⟨fun f b a w n p c d h=>?_,x⟩;have a5:=d;simp only[Zlj,Bool.and_eq_true,Bool.false_or]at d
  replace c:KeepU U w0 w:=by
   rcases c with c|c
   ·cases c
   ·exact c
  obtain⟨⟨⟨⟨⟨⟨⟨A,I⟩,L⟩,X⟩,S⟩,C⟩,N⟩,M⟩:=d;have D:k∈Region.ready .any l.toArray b:=by simpa using I
  have W:Zlj P l m fl (.alt k t or) b true=true:=by
   simp only[Zlj,Bool.and_eq_true,Bool.true_or,true_and];exact⟨⟨⟨⟨⟨⟨I,L⟩,X⟩,S⟩,C⟩,N⟩,M⟩
  cases f with
  | zero=>simp only[Tr.depth]at n;omega
  | succ f =>
   refine⟨fun h0=>(by rw[h0]at D;cases D),fun j g=>?_⟩;have T:=List.all_eq_true.1 A j g;exact x f b a w n p c W h j (by simpa[Tr.heads]using T)
def treeM(P:Program)(l:List Oper)(m:Nat)(fl:List Nat)(t:Tr):Bool:=lastB P l m&&Region.noSelect l.toArray&&Zlj P l m fl t (Array.replicate l.length false) false&&decide (t.depth<=l.length)
theorem any_last{l:List Oper}{a:Act}{w:World}(m:Nat)(fl:List Nat)(U:Nat->Prop)(t:Tr)(hc:treeM P l m fl t=true)
  (h:Zhp P l m fl U w Q t a w):wpAny P .any l.toArray (NQ Q) l.toArray.size (Array.replicate l.toArray.size false) a w:=by
 simp only[treeM,Bool.and_eq_true,decide_eq_true_eq]at hc;obtain⟨⟨⟨d,f⟩,c⟩,e⟩:=hc;have b:=(Zp6 (P:=P) (Q:=Q) (m:=m) (fl:=fl) (U:=U) (w0:=w) f d t).1 l.length (Array.replicate l.length false) a w e (Zc3 _) (.inr fun _ _=>rfl) c h;exact Zyz _ _ _ _ (by simpa using b)
theorem wp_region_last{id:Nat}{l:List Oper}{a:Act}{w:World}(m:Nat)(fl:List Nat)(U:Nat->Prop)(t:Tr)(hm:P.follows .mixedOrders=true)(hc:treeM P l m fl t=true)
  (h:Zhp P l m fl U w.drew Q t a w.drew):(Code.region id l.toArray true).wp P Q a w:=by
 refine Code.wp_mono (Q:=NQ Q) (fun e a w h=>?_) (wp_region_any hm (any_last m fl U t hc h));cases e<;>first|exact h|exact h.elim
section
variable {l : List Oper} {m : Nat} {fl : List Nat} {U : Nat -> Prop} {w0 : World} {a : Act} {w : World}
theorem trm_seg{ks:List Nat}{t:Tr}(h:wpList P l.toArray (SegQ (Zhp P l m fl U w0 Q t)) (ks.map fun k=>l.getD k default) a w):Zhp P l m fl U w0 Q (.seg ks t) a w:=h
theorem trm_to{K:Act->World->Prop}(h:K a w):SegQ K .normal a w:=h
theorem trm_alt{k:Nat}{t or:Tr}(h:wpList P l.toArray (SegQ fun a' w'=>(k≠m->KeepU U w0 w')/\Zhp P l m fl U w0 Q t a' w') [l.getD k default] a w)(h2:Zhp P l m fl U w0 Q or a w):Zhp P l m fl U w0 Q (.alt k t or) a w:=⟨h,h2⟩
theorem trm_one{k:Nat}{t:Tr}(h:wpList P l.toArray (SegQ fun a' w'=>(k≠m->KeepU U w0 w')/\Zhp P l m fl U w0 Q t a' w') [l.getD k default] a w):Zhp P l m fl U w0 Q (.alt k t .no) a w:=⟨h,trivial⟩
theorem trm_end{k:Nat}{t:Tr}(h1:KeepU U w0 w)(h2:Zhp P l m fl U w0 Q t a w):SegQ (fun a' w'=>(k≠m->KeepU U w0 w')/\Zhp P l m fl U w0 Q t a' w') .normal a w:=⟨fun _=>h1,h2⟩
theorem trm_last{t:Tr}(h2:Zhp P l m fl U w0 Q t a w):SegQ (fun a' w'=>(m≠m->KeepU U w0 w')/\Zhp P l m fl U w0 Q t a' w') .normal a w:=⟨fun h=>absurd rfl h,h2⟩
theorem trm_fin(h1:l.all (Zg4 a)=true)(h2:∀k∈fl,FlOk U w0 (l.getD k default) a)(hQ:Q .normal a w):Zhp P l m fl U w0 Q .fin a w:=⟨⟨h1,h2⟩,hQ⟩
