/- From a datum that is read to a slice that reads as a list. -/
import Derived.Test.YtpbdcppaiafbgaaGreatWords
import Derived.Deep.Slices
import Derived.ChangeArms
import Derived.Lib.SmallJoins
import Derived.ProofKit
import Derived.WideKeyArgs
import Derived.Carry
import Derived.ChangeSame
namespace Go.Words
open Go Go.RowKit Go.Deep Go.ChangeShapes Go.WideShapes Go.Joins
section
variable {H : Type} {enc : TypeId×Value -> H} {P : Program} {w : World} {base : Nat} {spare : Nat -> Bool} {held : Bool}
theorem cell_spot{a:Addr}{v:Value}(h:w.cell? a=some v):a=⟨a.block,a.off,none⟩/\a.block<w.heap.size:=by
 obtain⟨b,o,s⟩:=a;unfold World.cell? at h;simp only[]at h
 split at h
 ·rename_i c t fr hh;cases s with
  | none=>exact⟨rfl,(Array.getElem?_eq_some_iff.1 hh).1⟩
  | some s=>simp at h
 ·cases h
theorem add_plain(b o n:Nat):Addr.add ⟨b,o,none⟩ n=⟨b,o+n,none⟩:=Addr.add_lit b o n
theorem Sl.mk'{α:Type}{sz:Nat}{R:Rep α}(hsz:0<sz){a:Addr}{len cap:Nat}(hc:len<=cap)
  (h:∀i,i<len->∃x b,b.length=sz/\R w w.heap.size x b/\∀j u,b[j]? = some u->w.cell? (a.add (i*sz+j))=some u) :
  ∃l,Sl sz R w w.heap.size (.slice (some a) len cap) l:=by
 have o:∀i:Nat,∃x:Option α,i<len->∃y b,x=some y/\b.length=sz/\R w w.heap.size y b/\∀j u,b[j]? = some u->w.cell? (a.add (i*sz+j))=some u:=fun i=>by
  by_cases hi:i<len
  ·obtain⟨y,b,c⟩:=h i hi;exact⟨some y,fun _=>⟨y,b,rfl,c⟩⟩
  ·exact⟨none,fun h9=>absurd h9 hi⟩
 let X:=fun i=>Classical.choose (o i)
 have g:=fun i=>Classical.choose_spec (o i)
 have k:∀n,n<=len->∃l:List α,l.length=n/\∀(i:Nat) (y:α),l[i]? = some y->X i=some y:=by
  intro n
  induction n with
  | zero=>exact fun _=>⟨[],rfl,fun i y h=>by simp at h⟩
  | succ n ih =>
   intro H;obtain⟨l,c,d⟩:=ih (by omega);obtain⟨y,b,e,_⟩:=g n (by omega);refine⟨l++[y],by simp[c],fun i z hz=>?_⟩;by_cases hi:i<l.length
   ·rw[List.getElem?_append_left hi]at hz;exact d i z hz
   ·rw[List.getElem?_append_right (by omega)]at hz;have f:i-l.length=0:=by
     have:=(zS.1 hz).1;simp at this;omega
    rw[f]at hz;simp at hz;subst hz;have:i=n:=by omega
    rw[this];exact e
 obtain⟨l,c,d⟩:=k len zl;refine⟨l,some a,cap,by rw[c],by omega,fun i y hi=>?_⟩;have q:i<len:=by rw[<- c];exact(zS.1 hi).1
 obtain⟨r,b,e,f,A,B⟩:=g i q;have C:=d i y hi;have D:r=y:=by
  have:some r=some y:=e.symm.trans C;injection this
 subst D;have v:a=⟨a.block,a.off,none⟩/\a.block<w.heap.size:=by
  obtain⟨I,m,F,s,G,t⟩:=g 0 (by omega);cases m with
  | nil=>simp at s;omega
  | cons u us =>
   have:=cell_spot (t 0 u rfl);rw[Nat.zero_mul]at this;simpa[Addr.add]using this
 obtain⟨p,E⟩:=v;refine⟨a.block,a.off,b,by rw[<- p],E,f,A,fun j u hu=>?_⟩;have:=B j u hu;rw[p,add_plain]at this;rw[Nat.add_assoc];exact this
theorem Zgc{t:TypeId}{fuel:Nat}{v:Value}{x:DataW H×List MemPlace}(ht:P.underlying t=some (.int .i64))(h:DataW.trod enc P w base spare held fuel t [v]=some x):∃n:Int,v=.int .i64 n:=by
 obtain⟨n,a,_⟩:=DataW.trod_int ht h;injection a with a;exact⟨n,a⟩
theorem ints_of{t e:TypeId}{fuel:Nat}{cs:List Value}{x:DataW H×List MemPlace}(ht:P.underlying t=some (.slice e))(hc:P.cellsOf e=1)(he:P.underlying e=some (.int .i64))
  (h:DataW.trod enc P w base spare held fuel t cs=some x):∃v l,cs=[v]/\Sl 1 RInt w w.heap.size v l:=by
 rcases open_slice1 ht hc h with⟨rfl,_⟩|⟨a,len,q,m,n,V,D,s,rfl,_,g,_,o,_,p⟩
 ·exact⟨_,[],rfl,Sl.nil _ _⟩
 ·have r:len<=m:=by rw[o];split<;>omega
  obtain⟨l,b⟩:=Sl.mk' (R:=RInt) (w:=w) (a:=a) (sz:=1) (by omega) g fun i hi=>by
   obtain⟨c,d⟩:=p i (by omega);obtain⟨k,f⟩:=Zgc he d;refine⟨k,[.int .i64 k],rfl,rfl,fun j u hu=>?_⟩;cases j with
   | zero =>
    simp at hu;subst hu;rw[Nat.mul_one,Nat.add_zero,c,f]
   | succ j=>simp at hu
  exact⟨_,l,rfl,b⟩
end
open Go Go.RowKit Go.Deep Go.ChangeShapes Go.WideShapes Go.Joins
section
variable {H : Type} {enc : TypeId×Value -> H} {P : Program} {w : World} {base : Nat} {spare : Nat -> Bool} {held : Bool}
theorem Zaf(hl:laidOutB P=true){W W':World}(hb:Below W.heap.size W W'){sp:Nat->Bool}:∀(ts:List TypeId) (vs:List Value) (ds:List (DataW H)) (ps:List MemPlace),
  (ts.all fun t=>P.readableRec t&&decide (t<P.types.size))=true->DataW.TrodAll enc P W 0 (fun _=>true) true ts vs ds ps->(∀x∈ps,x.block<W.heap.size)->(∀x∈ps,sp x.block=true) ->
  DataW.TrodAll enc P W' 0 sp true ts vs ds ps
 | [],vs,ds,ps,_,h,_,_=>by
  cases vs<;>cases ds<;>simp_all [DataW.TrodAll]
 | t::ts,vs,ds,ps,ht,h,hlt,hsp=>by
  cases vs with
  | nil=>cases ds<;>exact h.elim
  | cons v vs =>
   cases ds with
   | nil=>exact h.elim
   | cons d ds =>
    simp only[List.all_cons,Bool.and_eq_true,decide_eq_true_eq]at ht;obtain⟨⟨f,a⟩,b⟩:=ht;obtain⟨p,q,c,e,rfl⟩:=h;refine⟨p,q,WideElems.Trod_stays hl f a c (fun x hx=>hb.same (hlt x (List.mem_append_left _ hx))) (fun x hx=>hsp x (List.mem_append_left _ hx)),?_,rfl⟩;exact Zaf hl hb ts vs ds q (by simpa using b) e (fun x hx=>hlt x (List.mem_append_right _ hx)) (fun x hx=>hsp x (List.mem_append_right _ hx))
theorem Zag{f:Func}{s:ChangeSpec}{apart fresh handsOn again:Bool}{W W':World}{args:Array Value}{v:Value}{ds gs:List (DataW H)}{before pa pv:List MemPlace}
  (hW:DataW.Whole enc P f.params.toList s.vars apart W args.toList ds gs before)
  (hres:∀(b:Nat) (sp:Nat->Bool) (hd:Bool),DataW.TrodAll enc P W' b sp hd f.resultTypes.toList (v.resultList f.resultTypes.size) (s.fn H (ds++gs)).results [])
  (hargs:∀sp:Nat->Bool,(∀p∈before,sp p.block=true)->DataW.TrodAll enc P W' 0 sp true f.params.toList args.toList (s.fn H (ds++gs)).args pa)
  (hvars:∀sp:Nat->Bool,(∀p∈before,sp p.block=true)->DataW.TrodVars enc P W' sp s.vars (s.fn H (ds++gs)).vars pv)
  (hps:before=pa++pv) (hb:Below W.heap.size W W')
  (hok:∀(j:Nat) (t:TypeId) (r:Value),f.resultTypes[j]? = some t->(v.resultList f.resultTypes.size)[j]? = some r->Value.okWide P W' .any 0 t r) :
  s.post enc P f apart fresh handsOn again W args v W':=by
 have e:∀p∈before,p.block<W.heap.size:=fun p a=>hW.lt p a
 have c:∀p∈before,(fun b=>decide (b<W.heap.size)) p.block=true:=fun p a=>by simpa using e p a
 refine⟨ds,gs,before,[],pa,pv,hW,hres _ _ _,hargs _ c,hvars _ c,World.keptBut_mono (fun p a=>⟨a,?_⟩) (hb.frame (· ∈ before)),fun _=>?_⟩
 ·rw[hps,zP]at a;exact Or.inr a
 ·obtain⟨_,_,_,_,_,i,h⟩:=hW;refine⟨hok,_,_,([]++pa)++pv,⟨[]++pa,pv,trodAll_append (hargs _ (fun _ _=>rfl)) (hres _ _ _),hvars _ (fun _ _=>rfl),rfl,?_,?_⟩,?_⟩
  ·intro b off a;have d:MemPlace.cell b off∈before:=by rw[hps];simpa using a
   rw[hb.frozen (e _ d)];exact i b off d
  ·intro g;have:=h g;rw[hps]at this;simpa using this
  ·intro p a _;rw[hps];simpa using a
