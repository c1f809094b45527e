import Derived.Orders
import Derived.Tactics
import Derived.KernelRfl
import Derived.Lib.Hide
namespace Go
theorem zz{p:Prop}(h:p):RowKit.Hid p:=h
theorem zz2{p0 p1:Prop}(a0:p0)(a1:p1):RowKit.Hid p0/\RowKit.Hid p1:=⟨a0,a1⟩
theorem zz3{p0 p1 p2:Prop}(a0:p0)(a1:p1)(a2:p2):RowKit.Hid p0/\RowKit.Hid p1/\RowKit.Hid p2:=⟨a0,a1,a2⟩
theorem zz4{p0 p1 p2 p3:Prop}(a0:p0)(a1:p1)(a2:p2)(a3:p3):RowKit.Hid p0/\RowKit.Hid p1/\RowKit.Hid p2/\RowKit.Hid p3:=⟨a0,a1,a2,a3⟩
theorem zz5{p0 p1 p2 p3 p4:Prop}(a0:p0)(a1:p1)(a2:p2)(a3:p3)(a4:p4):RowKit.Hid p0/\RowKit.Hid p1/\RowKit.Hid p2/\RowKit.Hid p3/\RowKit.Hid p4:=⟨a0,a1,a2,a3,a4⟩
theorem zz6{p0 p1 p2 p3 p4 p5:Prop}(a0:p0)(a1:p1)(a2:p2)(a3:p3)(a4:p4)(a5:p5):RowKit.Hid p0/\RowKit.Hid p1/\RowKit.Hid p2/\RowKit.Hid p3/\RowKit.Hid p4/\RowKit.Hid p5:=⟨a0,a1,a2,a3,a4,a5⟩
theorem zz7{p0 p1 p2 p3 p4 p5 p6:Prop}(a0:p0)(a1:p1)(a2:p2)(a3:p3)(a4:p4)(a5:p5)(a6:p6):RowKit.Hid p0/\RowKit.Hid p1/\RowKit.Hid p2/\RowKit.Hid p3/\RowKit.Hid p4/\RowKit.Hid p5/\RowKit.Hid p6:=⟨a0,a1,a2,a3,a4,a5,a6⟩
theorem zz8{p0 p1 p2 p3 p4 p5 p6 p7:Prop}(a0:p0)(a1:p1)(a2:p2)(a3:p3)(a4:p4)(a5:p5)(a6:p6)(a7:p7):RowKit.Hid p0/\RowKit.Hid p1/\RowKit.Hid p2/\RowKit.Hid p3/\RowKit.Hid p4/\RowKit.Hid p5/\RowKit.Hid p6/\RowKit.Hid p7:=⟨a0,a1,a2,a3,a4,a5,a6,a7⟩
theorem zz9{p0 p1 p2 p3 p4 p5 p6 p7 p8:Prop}(a0:p0)(a1:p1)(a2:p2)(a3:p3)(a4:p4)(a5:p5)(a6:p6)(a7:p7)(a8:p8):RowKit.Hid p0/\RowKit.Hid p1/\RowKit.Hid p2/\RowKit.Hid p3/\RowKit.Hid p4/\RowKit.Hid p5/\RowKit.Hid p6/\RowKit.Hid p7/\RowKit.Hid p8:=⟨a0,a1,a2,a3,a4,a5,a6,a7,a8⟩
theorem zz10{p0 p1 p2 p3 p4 p5 p6 p7 p8 p9:Prop}(a0:p0)(a1:p1)(a2:p2)(a3:p3)(a4:p4)(a5:p5)(a6:p6)(a7:p7)(a8:p8)(a9:p9):RowKit.Hid p0/\RowKit.Hid p1/\RowKit.Hid p2/\RowKit.Hid p3/\RowKit.Hid p4/\RowKit.Hid p5/\RowKit.Hid p6/\RowKit.Hid p7/\RowKit.Hid p8/\RowKit.Hid p9:=⟨a0,a1,a2,a3,a4,a5,a6,a7,a8,a9⟩
theorem zz11{p0 p1 p2 p3 p4 p5 p6 p7 p8 p9 p10:Prop}(a0:p0)(a1:p1)(a2:p2)(a3:p3)(a4:p4)(a5:p5)(a6:p6)(a7:p7)(a8:p8)(a9:p9)(a10:p10):RowKit.Hid p0/\RowKit.Hid p1/\RowKit.Hid p2/\RowKit.Hid p3/\RowKit.Hid p4/\RowKit.Hid p5/\RowKit.Hid p6/\RowKit.Hid p7/\RowKit.Hid p8/\RowKit.Hid p9/\RowKit.Hid p10:=⟨a0,a1,a2,a3,a4,a5,a6,a7,a8,a9,a10⟩
theorem zz12{p0 p1 p2 p3 p4 p5 p6 p7 p8 p9 p10 p11:Prop}(a0:p0)(a1:p1)(a2:p2)(a3:p3)(a4:p4)(a5:p5)(a6:p6)(a7:p7)(a8:p8)(a9:p9)(a10:p10)(a11:p11):RowKit.Hid p0/\RowKit.Hid p1/\RowKit.Hid p2/\RowKit.Hid p3/\RowKit.Hid p4/\RowKit.Hid p5/\RowKit.Hid p6/\RowKit.Hid p7/\RowKit.Hid p8/\RowKit.Hid p9/\RowKit.Hid p10/\RowKit.Hid p11:=⟨a0,a1,a2,a3,a4,a5,a6,a7,a8,a9,a10,a11⟩
theorem zmC{α β:Type _}(f:α->β)(a:α)(l:List α):(a::l).map f=f a::l.map f:=List.map_cons ..
theorem zmN{α β:Type _}{f:α->β}:([]:List α).map f=[]:=List.map_nil
theorem zgZ{α:Type _}{a d:α}{l:List α}:(a::l).getD 0 d=a:=List.getD_cons_zero
theorem zgS{α:Type _}{a d:α}{l:List α}{n:Nat}:(a::l).getD (n+1) d=l.getD n d:=List.getD_cons_succ
theorem zm{α β:Type _}:(∀(f:α->β) (a:α) (l:List α),(a::l).map f=f a::l.map f)/\∀(f:α->β),([]:List α).map f=[]:=⟨fun _ _ _=>List.map_cons ..,fun _=>List.map_nil⟩
theorem zg{α:Type _}:(∀(a d:α) (l:List α),(a::l).getD 0 d=a)/\∀(a d:α) (l:List α) (n:Nat),(a::l).getD (n+1) d=l.getD n d:=⟨fun _ _ _=>List.getD_cons_zero,fun _ _ _ _=>List.getD_cons_succ⟩
theorem zl{n:Nat}:n<=n:=Nat.le_refl n
theorem zG{α:Type _}{l:List α}{i:Nat}(h:i<l.length):l[i]? = some l[i]:=List.getElem?_eq_getElem h
theorem zF{α:Type _}{p:α->Prop}{a:α}{l:List α}(h:p a/\∀x∈l,p x):∀x∈a::l,p x:=List.forall_mem_cons.2 h
theorem zS{α:Type _}{i:Nat}{a:α}{l:List α}:l[i]? = some a↔∃h:i<l.length,l[i]=a:=List.getElem?_eq_some_iff
theorem zM{α:Type _}{l:List α}{n:Nat}(h:n<l.length):l[n]∈l:=List.getElem_mem h
theorem zO{α:Type _}{a b:α}(h:some a=some b):a=b:=Option.some.inj h
theorem zD{α:Type _}{l:List α}{i:Nat}{a:α}:l.getD i a=l[i]?.getD a:=List.getD_eq_getElem?_getD
theorem zT{α:Type _}{i:Nat}{l:List α}(h:i<l.length):l.take (i+1)=l.take i++[l[i]]:=List.take_succ_eq_append_getElem h
theorem zN{p:Prop}[Decidable p](h:¬p):decide p=false:=_root_.decide_eq_false h
theorem zY{p:Prop}[Decidable p](h:p):decide p=true:=_root_.decide_eq_true h
theorem zL{α β:Type _}{as:List α}(f:α->β):(as.map f).length=as.length:=List.length_map f
theorem zA{α:Type _}{as bs:List α}:(as++bs).length=as.length+bs.length:=List.length_append
theorem zE{α:Type _}{a:α}{l:List α}(h:a∈l):∃(i:Nat) (h:i<l.length),l[i]=a:=List.getElem_of_mem h
theorem zB{α β:Type _}{b:β}{f:α->β}{l:List α}:b∈l.map f↔∃a,a∈l/\f a=b:=List.mem_map
theorem zR{m n:Nat}:m∈List.range n↔m<n:=List.mem_range
theorem zP{α:Type _}{a:α}{s t:List α}:a∈s++t↔a∈s\/a∈t:=List.mem_append
theorem zQ{α:Type _}{p:α->Bool}{as:List α}{x:α}:x∈as.filter p↔x∈as/\p x=true:=List.mem_filter
theorem zC(n:Nat):(n:Int).toNat=n:=Int.toNat_natCast n
theorem zJ{α β:Type _}{f:α->β}{l:List α}{i:Nat}:(l.map f)[i]? = Option.map f l[i]?:=List.getElem?_map
theorem zK(n m:Nat):n<m\/n ≥ m:=Nat.lt_or_ge n m
theorem zU{α:Type _}{a b:α}:a∈[b]↔a=b:=List.mem_singleton
end Go
namespace Go.Canon
open Go
section fix
variable {P : Program} {α β : Type}
def Fix(P:Program){α:Type}(s:Sem α):Prop:=∀w r w',s.run P w=.ok r w'->w'=w/\∀w2,s.run P w2=.ok r w2
def Calm(P:Program){α:Type}(s:Sem α):Prop:=∀w r w',s.run P w=.ok r w'->w'=w
theorem zahq(a:α):Fix P (pure a:Sem α):=fun w r w' h=>by
 simp only[Sem.run_pure]at h;injection h with h1 h2;subst h1;subst h2;exact⟨rfl,fun _=>rfl⟩
theorem Zko:Fix P program:=fun w r w' h=>by
 simp only[run_program]at h;injection h with h1 h2;subst h1;subst h2;exact⟨rfl,fun _=>rfl⟩
theorem Zo2{s:Sem α}(h:∀w r w',s.run P w≠.ok r w'):Fix P s:=fun w r w' h'=>absurd h' (h w r w')
theorem zagq{s:Sem α}{f:α->Sem β}(hs:Fix P s)(hf:∀a,Fix P (f a)):Fix P (s >>= f):=fun w r w' h=>by
 rw[Sem.run_bind]at h;cases b:s.run P w with
 | ok a w1 =>
  rw[b]at h;simp only[Result.andThen_ok]at h;obtain⟨c,d⟩:=hs w a w1 b;subst c;obtain⟨e,g⟩:=hf a _ _ _ h;subst e;exact⟨rfl,fun w2=>by rw[Sem.run_bind,d w2];exact g w2⟩
 | halt x w1=>rw[b]at h;cases h
theorem Zf8{s:Sem α}(h:Fix P s):Calm P s:=fun w r w' hr=>(h w r w' hr).1
theorem Zjj{s:Sem α}{f:α->Sem β}(hs:Calm P s)(hf:∀a,Calm P (f a)):Calm P (s >>= f):=fun w r w' h=>by
 rw[Sem.run_bind]at h;cases b:s.run P w with
 | ok a w1 =>
  rw[b]at h;simp only[Result.andThen_ok]at h;have c:=hs w a w1 b;subst c;exact hf a _ _ _ h
 | halt x w1=>rw[b]at h;cases h
theorem Ztq(a:Addr):Calm P (load a):=fun w r w' h=>by
 rw[run_load]at h
 split at h
 ·injection h with _ h2;exact h2.symm
 ·split at h
  ·injection h with _ h2;exact h2.symm
  ·cases h
theorem zakq(s:String):Fix P (stuck s:Sem α):=Zo2 fun _ _ _ h=>by simp at h
theorem Zbm(s:Unsupported):Fix P (unsupported s:Sem α):=Zo2 fun _ _ _ h=>by simp at h
theorem Zlo{s:Sem α}{f:α->Sem β}(hf:∀a w r w',(f a).run P w≠.ok r w'):∀w r w',(s >>= f).run P w≠.ok r w':=fun w r w' h=>by
 rw[Sem.run_bind]at h;cases b:s.run P w with
 | ok a w1=>rw[b]at h;exact hf a _ _ _ h
 | halt x w1=>rw[b]at h;cases h
theorem Zjk(e:RuntimeError):∀w r w',(runtimePanic e:Sem α).run P w≠.ok r w':=by
 unfold runtimePanic;refine Zlo fun p=>?_
 have a:∀(v:Value) (w:World) (r:α) (w':World),(goPanic v:Sem α).run P w≠.ok r w':=fun v w r w' h=>by
  rw[run_goPanic]at h;cases h
 cases e<;>dsimp only
 all_goals first
  | exact a _
  | exact Zlo fun _=>a _
  | exact Zlo fun _=>Zlo fun _=>a _
theorem Zg5(e:RuntimeError):Fix P (runtimePanic e:Sem α):=Zo2 (Zjk e)
theorem zbaq(k:IntKind)(x y:Int)(c:BoundsCode):Fix P (boundsPanic k x y c:Sem α):=by
 unfold boundsPanic;dsimp only
 split<;>exact Zo2 (Zlo fun _=>Zjk _)
theorem Zrs(t:TypeId):Fix P (typeInfo t):=by
 unfold typeInfo;refine zagq Zko fun p=>?_
 split
 ·exact zahq _
 ·exact zakq _
theorem zavq(t:TypeId):Fix P (underlying t):=by
 unfold underlying;refine zagq Zko fun p=>?_
 split
 ·exact zahq _
 ·exact zakq _
theorem Zc1(t:TypeId):Fix P (sizeOf t):=by
 unfold sizeOf;exact zagq (Zrs t) fun _=>zahq _
theorem Zug(t:TypeId):Fix P (isAgg t):=by
 unfold isAgg;refine zagq (zavq t) fun _=>?_
 split<;>exact zahq _
theorem Zz4(t:TypeId):Fix P (zeroValue t):=by
 unfold zeroValue;refine zagq (Zrs t) fun _=>?_
 split
 ·exact zahq _
 ·exact Zbm _
theorem Zod(v:Value):Fix P (asIntOf v):=by
 unfold asIntOf
 split
 ·exact zahq _
 ·exact Zbm _
 ·exact zakq _
theorem Zxy(v:Value):Fix P (asBool v):=by
 unfold asBool
 split
 ·exact zahq _
 ·exact zakq _
theorem fix_asAgg(v:Value):Fix P (asAgg v):=by
 unfold asAgg
 split
 ·exact zahq _
 ·exact zakq _
theorem Zlu(v:Value):Fix P (Instr.sureAddr v):=by
 unfold Instr.sureAddr
 split
 ·exact zahq _
 ·exact zakq _
theorem fix_part(t:TypeId)(cs:Array Value)(off:Nat):Fix P (part t cs off):=by
 unfold part;refine zagq (Zug t) fun b=>?_
 split
 ·exact zagq (Zc1 t) fun _=>zahq _
 ·split
  ·exact zahq _
  ·exact zakq _
theorem fix_build(t:TypeId)(parts:Array (Nat×Value)):Fix P (Instr.build t parts):=by
 unfold Instr.build;refine zagq (Zz4 t) fun z=>?_
 refine zagq (zavq t) fun d=>?_
 split
 ·refine zagq ?_ fun pl=>?_
  ·rename_i fields;obtain⟨a⟩:=fields;simp only[List.mapM_toArray];refine zagq (α:=List (Nat×Nat)) (β:=Array (Nat×Nat)) ?_ fun _=>zahq _
   induction a with
   | nil=>exact zahq _
   | cons x xs ih =>
    rw[List.mapM_cons];refine zagq (zagq (Zc1 _) fun _=>zahq _) fun _=>zagq ih fun _=>zahq _
  ·split
   ·exact zahq _
   ·exact zakq _
 ·refine zagq (Zc1 _) fun _=>?_
  split
  ·exact zahq _
  ·exact zakq _
 ·exact zakq _
theorem fix_field(t:TypeId)(x:Value)(f:Nat):Fix P (Instr.field t x f):=by
 unfold Instr.field;refine zagq (zavq t) fun d=>?_
 split
 ·split
  ·exact zagq (fix_asAgg _) fun _=>fix_part _ _ _
  ·exact zakq _
 ·exact zakq _
theorem fix_index(t:TypeId)(x i:Value):Fix P (Instr.index t x i):=by
 unfold Instr.index;refine zagq (Zod i) fun ki=>?_
 refine zagq (zavq t) fun d=>?_
 split
 ·split
  ·exact zagq (Zc1 _) fun _=>fix_part _ _ _
  ·exact zbaq _ _ _ _
 ·split
  ·exact zahq _
  ·exact zbaq _ _ _ _
 ·exact zakq _
theorem fix_indexAt(t:TypeId)(x i:Value):Fix P (Instr.indexAt t x i):=by
 unfold Instr.indexAt;refine zagq (Zod i) fun ki=>?_
 dsimp only;refine zagq (zavq t) fun d=>?_
 split
 ·refine zagq (Zlu _) fun _=>zagq (zahq _) fun q=>zagq (zavq t) fun d2=>?_
  split
  ·split
   ·exact zagq (Zc1 _) fun _=>zahq _
   ·split<;>split<;>first|exact Zbm _|exact zbaq _ _ _ _
  ·exact zbaq _ _ _ _
 ·refine zagq (zahq _) fun q=>zagq (zavq t) fun d2=>?_
  split
  ·split
   ·exact zagq (Zc1 _) fun _=>zahq _
   ·split<;>split<;>first|exact Zbm _|exact zbaq _ _ _ _
  ·exact zbaq _ _ _ _
 ·refine zagq (zakq _) fun q=>zagq (zavq t) fun d2=>?_
  split
  ·split
   ·exact zagq (Zc1 _) fun _=>zahq _
   ·split<;>split<;>first|exact Zbm _|exact zbaq _ _ _ _
  ·exact zbaq _ _ _ _
theorem Zd6(x:Value)(y:Nat)(c:BoundsCode):Fix P (Instr.sliceBound x y c):=by
 unfold Instr.sliceBound;refine zagq (Zod x) fun ki=>?_
 dsimp only
 split
 ·exact zahq _
 ·exact zbaq _ _ _ _
theorem Zfv(b:Bool)(n c:Nat)(lo hi mx:Option Value):Fix P (Instr.sliceBounds b n c lo hi mx):=by
 unfold Instr.sliceBounds;have a:∀m h:Nat,Fix P (match lo with
    | some v=>do
     let l <- Instr.sliceBound v h (if mx.isSome=true then BoundsCode.slice3C else BoundsCode.sliceB)
     pure (l,h,m)
    | none=>do
     let l <- pure 0
     pure (l,h,m):Sem (Nat×Nat×Nat)):=by
  intro m h
  split
  ·exact zagq (Zd6 _ _ _) fun _=>zahq _
  ·exact zagq (zahq _) fun _=>zahq _
 dsimp only
 split
 ·refine zagq (Zd6 _ _ _) fun m=>?_
  split
  ·exact zagq (Zd6 _ _ _) fun h=>a m h
  ·exact zagq (Zd6 _ _ _) fun h=>a m h
  ·exact zagq (zahq _) fun h=>a m h
  ·exact zagq (zakq _) fun h=>a m h
 ·refine zagq (zahq _) fun m=>?_
  split
  ·exact zagq (Zd6 _ _ _) fun h=>a m h
  ·exact zagq (Zd6 _ _ _) fun h=>a m h
  ·exact zagq (zahq _) fun h=>a m h
  ·exact zagq (zakq _) fun h=>a m h
theorem fix_asAddr(v:Value):Fix P (asAddr v):=by
 unfold asAddr
 split
 ·exact zahq _
 ·exact Zg5 _
 ·exact zakq _
theorem fix_slice(t:TypeId)(x:Value)(lo hi mx:Option Value):Fix P (Instr.slice t x lo hi mx):=by
 unfold Instr.slice;refine zagq (zavq t) fun d=>?_
 split
 ·split
  ·exact zakq _
  ·exact zagq (Zfv _ _ _ _ _ _) fun _=>zahq _
 ·exact zagq (Zfv _ _ _ _ _ _) fun _=>zagq (Zc1 _) fun _=>zahq _
 ·refine zagq (fix_asAddr _) fun _=>zagq (zavq _) fun _=>?_
  split
  ·exact zagq (Zfv _ _ _ _ _ _) fun _=>zagq (Zc1 _) fun _=>zahq _
  ·exact zakq _
 ·exact zakq _
theorem fix_sliceAt(t:TypeId)(x:Value)(lo hi mx:Option Value):Fix P (Instr.sliceAt t x lo hi mx):=by
 unfold Instr.sliceAt;refine zagq (zavq t) fun d=>?_
 split
 ·exact zagq (Zlu _) fun _=>zagq (Zfv _ _ _ _ _ _) fun _=>zagq (Zc1 _) fun _=>zahq _
 ·exact fix_slice _ _ _ _ _
theorem fix_extract(t:Value)(i:Nat):Fix P (Instr.extract t i):=by
 unfold Instr.extract
 split
 ·split
  ·exact zahq _
  ·exact zakq _
 ·exact zakq _
theorem Zrq(op:BinOp)(k:IntKind)(x y:Int):Fix P (Op.intArith op k x y):=by
 unfold Op.intArith
 split<;>first|exact zahq _|exact zakq _
theorem fix_intDiv(op:BinOp)(k:IntKind)(x y:Int):Fix P (Op.intDiv op k x y):=by
 unfold Op.intDiv
 split
 ·exact Zg5 _
 ·split<;>first|exact zahq _|exact zakq _
theorem Zuf(op:BinOp)(k:IntKind)(x y:Int):Fix P (Op.intBits op k x y):=by
 unfold Op.intBits;dsimp only
 split<;>first|exact zahq _|exact zakq _
theorem fix_intCmp(op:BinOp)(x y:Int):Fix P (Op.intCmp op x y):=by
 unfold Op.intCmp
 split<;>first|exact zahq _|exact zakq _
theorem fix_shift(op:BinOp)(k:IntKind)(x:Int)(yk:IntKind)(y:Int):Fix P (Op.shift op k x yk y):=by
 unfold Op.shift
 split
 ·exact Zg5 _
 ·dsimp only
  split<;>first|exact zahq _|exact zakq _
theorem Zrr(op:BinOp)(x y:ByteArray):Fix P (Op.stringOp op x y):=by
 unfold Op.stringOp;dsimp only
 split
 ·split
  ·exact Zbm _
  ·exact zahq _
 all_goals first|exact zahq _|exact zakq _
theorem fix_unary(op:UnOp)(x:Value):Fix P (Op.unary op x):=by
 unfold Op.unary
 split<;>first|exact zahq _|exact zakq _|exact Zrq _ _ _ _|exact Zuf _ _ _ _|exact Zbm _
theorem fix_fieldAt(t:TypeId)(x:Value)(f:Nat)(h:∀fs fd,P.underlying t=some (.struct fs)->fs[f]? = some fd->∀i,P.info? fd.type=some i->i.size≠0):Fix P (Instr.fieldAt t x f):=by
 intro w r l b;unfold Instr.fieldAt at b ⊢;cases e:P.underlying t with
 | none=>simp[underlying,e]at b
 | some d =>
  cases d<;>simp[underlying,e]at b
  case struct fs =>
   cases c:fs[f]? with
   | none=>simp[c]at b
   | some fd =>
    simp only[c]at b;cases x<;>simp[Instr.sureAddr]at b
    case pointer p =>
     cases p<;>simp at b
     case some a =>
      cases hi:P.info? fd.type with
      | none=>simp[fieldPlace,sizeOf,typeInfo,hi]at b
      | some i =>
       have g:=h fs fd e c i hi;simp[fieldPlace,sizeOf,typeInfo,hi,g]at b;obtain⟨j,k⟩:=b;subst j;subst k;refine⟨rfl,fun w2=>?_⟩;simp[underlying,e,c,Instr.sureAddr,fieldPlace,sizeOf,typeInfo,hi,g]
def Zie:Value->Value->Bool
 | .int _ _,.int _ _=>true
 | .bool _,.bool _=>true
 | .string _,.string _=>true
 | .tuple _,.tuple _=>true
 | .int _ _,.tuple _=>true
 | .tuple _,.int _ _=>true
 | .bool _,.tuple _=>true
 | .tuple _,.bool _=>true
 | .string _,.tuple _=>true
 | .tuple _,.string _=>true
 | _,_=>false
theorem Zue(t:TypeId)(x y:Value)(h:Zie x y=true):Fix P (Op.equal t x y):=by
 unfold Op.equal Op.maxDepth;unfold Op.equalIn;refine zagq (zavq t) fun d=>?_
 unfold Zie at h
 split at h
 all_goals(split<;>(try(simp_all;done))<;>first|exact zahq _|exact zakq _|(split<;>first|exact zahq _|exact zakq _))
theorem fix_binOp(op:BinOp)(t:TypeId)(x y:Value)(h:Zie x y=true):Fix P (binOp op t x y):=by
 have a:=Zue (P:=P) t x y h;unfold Zie at h
 split at h
 case h_11=>cases h
 all_goals
  cases op<;>simp only[binOp]<;>first
   | exact fix_shift _ _ _ _ _
   | exact zakq _
   | exact zagq a fun _=>zahq _
   | exact Zrr _ _ _
   | (split<;>first|exact zakq _|exact Zrq _ _ _ _|exact fix_intDiv _ _ _ _|exact Zuf _ _ _ _|exact fix_intCmp _ _ _)
theorem fix_eqGuard(op:BinOp)(t:TypeId)(x y:Operand)(a b:Value)(h:Zie a b=true):Fix P (eqGuard op t x y a b):=by
 unfold Zie at h;unfold eqGuard
 split at h
 all_goals first
  | (cases h;done)
  | (dsimp only;split<;>exact zahq _)
theorem fix_ite{α:Type}{c:Prop}[Decidable c]{s1 s2:Sem α}(h1:Fix P s1)(h2:Fix P s2):Fix P (if c then s1 else s2):=by split<;>assumption
def Zm3(P:Program)(t:TypeId):Bool:=match P.underlying t with|some (.int _)|some .bool|some .string=>true|_=>false
theorem Zr3{t:TypeId}(h:Zm3 P t=true):∃d,P.underlying t=some d/\((∃k,d=.int k)\/d=.bool\/d=.string):=by
 unfold Zm3 at h
 split at h
 ·exact⟨_,‹_›,.inl ⟨_,rfl⟩⟩
 ·exact⟨_,‹_›,.inr (.inl rfl)⟩
 ·exact⟨_,‹_›,.inr (.inr rfl)⟩
 ·cases h
def Zqf:Value->Value->Bool
 | .agg _,.agg _=>true
 | .agg _,.tuple _=>true
 | .tuple _,.agg _=>true
 | _,_=>false
theorem Zkc{x y:Value}(h:Zqf x y=true):(∃xs ys,x=.agg xs/\y=.agg ys)\/(∃xs ys,x=.agg xs/\y=.tuple ys)\/∃xs ys,x=.tuple xs/\y=.agg ys:=by
 unfold Zqf at h
 split at h
 ·exact .inl ⟨_,_,rfl,rfl⟩
 ·exact .inr (.inl ⟨_,_,rfl,rfl⟩)
 ·exact .inr (.inr ⟨_,_,rfl,rfl⟩)
 ·cases h
theorem Zz3(t:TypeId)(hp:Zm3 P t=true){x y:Value}(h:Zqf x y=true):Fix P (Op.equal t x y):=by
 obtain⟨d,f,e⟩:=Zr3 hp;unfold Op.equal Op.maxDepth;unfold Op.equalIn;intro w r g a;rw[Sem.run_bind,run_underlying f,Result.andThen_ok]at a;rcases Zkc h with⟨b,c,rfl,rfl⟩|⟨b,c,rfl,rfl⟩|⟨b,c,rfl,rfl⟩<;>rcases e with⟨k,rfl⟩|rfl|rfl<;>simp at a
theorem Zz2(op:BinOp)(t:TypeId)(hp:Zm3 P t=true){x y:Value}(h:Zqf x y=true):Fix P (binOp op t x y):=by
 have c:=Zz3 (P:=P) t hp h;rcases Zkc h with⟨a,b,rfl,rfl⟩|⟨a,b,rfl,rfl⟩|⟨a,b,rfl,rfl⟩<;>cases op<;>simp only[binOp]<;>first
  | exact zakq _
  | exact zagq c fun _=>zahq _
theorem Zud(op:BinOp)(t:TypeId)(hp:Zm3 P t=true)(x y:Operand){a b:Value}(h:Zqf a b=true):Fix P (eqGuard op t x y a b):=by
 obtain⟨d,j,g⟩:=Zr3 hp;have i:∀c e,Fix P (Op.eqGuardIn Op.maxDepth t (.agg c) (.agg e)):=fun c e w r w' hr=>by
  have f:∀w,(Op.eqGuardIn Op.maxDepth t (.agg c) (.agg e)).run P w=.ok false w:=fun w=>by
   unfold Op.maxDepth Op.eqGuardIn;rw[Sem.run_bind,run_underlying j,Result.andThen_ok];rcases g with⟨k,rfl⟩|rfl|rfl<;>simp
  rw[f]at hr;injection hr with e1 e2;exact⟨e2.symm,fun w2=>by rw[f,e1]⟩
 unfold eqGuard;refine fix_ite (zahq _) ?_;rcases Zkc h with⟨c,e,rfl,rfl⟩|⟨c,e,rfl,rfl⟩|⟨c,e,rfl,rfl⟩
 ·refine zagq Zko fun p=>zagq Zko fun q=>fix_ite (zahq _) (zagq (i _ _) fun r=>fix_ite (Zbm _) (zahq _))
 ·exact zahq _
 ·exact zahq _
def plainOne:Value->Bool
 | .int _ _=>true
 | .tuple _=>true
 | _=>false
theorem fix_convert(src dst:TypeId)(x:Value)(h:plainOne x=true)(hs:∃k,P.underlying src=some (.int k))(hd:∃k,P.underlying dst=some (.int k)):Fix P (convert src dst x):=by
 obtain⟨d,b⟩:=hs;obtain⟨e,c⟩:=hd;intro w r f a;unfold plainOne at h
 split at h
 ·simp[convert,underlying,b,c,Conv.intToInt]at a ⊢;exact⟨a.2.symm,a.1⟩
 ·simp[convert,underlying,b,c]at a
 ·cases h
end fix
section ops
variable {P : Program}
def isInt(P:Program)(t:TypeId):Bool:=match P.underlying t with|some (.int _)=>true|_=>false
def isLenType(P:Program)(t:TypeId):Bool:=match P.underlying t with|some (.slice _)|some .string|some (.array _ _)=>true|_=>false
def Zuw(P:Program)(o:Oper):Bool :=
 match o.op with
 | .binOp _ t _ _ _=>Zm3 P t
 | .move _ | .assign _ | .pick .. | .build .. | .unOp .. | .makeFunc .. | .slice .. | .field .. | .indexAddr .. | .index .. | .extract ..=>true
 | .convert s d _=>isInt P s&&isInt P d
 | .fieldAddr t _ f=>match P.underlying t with
  | some (.struct fs)=>match fs[f]? with
   | some fd=>match P.info? fd.type with
    | some i=>i.size != 0
    | none=>false
   | none=>false
  | _=>false
 | .call { callee:=.builtin .len,argTypes,.. }=>match argTypes[0]? with|some t=>isLenType P t|none=>false
 | _=>false
def isLoad(o:Oper):Bool:=match o.op with | .load ..=>true|_=>false
def Zck(P:Program)(o:Oper):Bool:=Zuw P o || isLoad o
def Zg4(a:Act)(o:Oper):Bool :=
 match o.op with
 | .binOp _ _ x y _=>Zie (a.eval x) (a.eval y)||Zqf (a.eval x) (a.eval y)
 | .convert _ _ x=>plainOne (a.eval x)
 | _=>true
theorem Zdo{s:Sem Value}(h:Fix P s):Fix P (do pure (Next.value (<- s)):Sem Next):=zagq h fun _=>zahq _
theorem Znw(a:Addr):∀(n i:Nat) (acc:Array Value),Calm P (loadCellsFrom a i n acc)
 | 0,_,_=>Zf8 (zahq _)
 | n+1,i,acc=>by
  unfold loadCellsFrom;exact Zjj (Ztq _) fun _=>Znw a n _ _
theorem value_of{s:Sem Value}{w:World}{r:Next}{w':World}(h:(do pure (Next.value (<- s)):Sem Next).run P w=.ok r w'):∃v,r=.value v:=by
 rw[Sem.run_bind]at h;cases a:s.run P w with
 | ok v w1=>rw[a]at h;simp only[Result.andThen_ok,Sem.run_pure]at h;injection h with h1 _;exact⟨v,h1.symm⟩
 | halt x w1=>rw[a]at h;cases h
theorem pure_fix{a:Act}{o:Oper}(h:Zuw P o=true)(g:Zg4 a o=true):Fix P (execOp a.eval o):=by
 obtain⟨I,F,A,pos,after,G⟩:=o;cases F<;>simp only[Zuw,Bool.false_eq_true]at h<;>simp only[execOp]
 case move=>exact zahq _
 case assign=>exact zahq _
 case pick c x y =>
  refine zagq (Zxy _) fun b=>?_
  exact zahq _
 case build=>exact Zdo (fix_build _ _)
 case binOp F t x y ty =>
  simp only[Zg4,Bool.or_eq_true]at g;rcases g with g|g
  ·exact Zdo (zagq (fix_eqGuard _ _ _ _ _ _ g) fun _=>fix_binOp _ _ _ _ g)
  ·exact Zdo (zagq (Zud _ _ h _ _ g) fun _=>Zz2 _ _ h g)
 case unOp=>exact Zdo (fix_unary _ _)
 case makeFunc=>exact Zdo (zahq _)
 case slice=>exact Zdo (fix_sliceAt _ _ _ _ _)
 case field=>exact Zdo (fix_field _ _ _)
 case indexAddr=>exact Zdo (fix_indexAt _ _ _)
 case index=>exact Zdo (fix_index _ _ _)
 case extract=>exact Zdo (fix_extract _ _)
 case convert s d x =>
  simp only[Bool.and_eq_true]at h;have D:∀t,isInt P t=true->∃k,P.underlying t=some (.int k):=fun t ht=>by
   unfold isInt at ht
   split at ht
   ·rename_i k hk;exact⟨k,hk⟩
   ·cases ht
  exact Zdo (fix_convert _ _ _ g (D _ h.1) (D _ h.2))
 case fieldAddr t x f =>
  refine Zdo (fix_fieldAt _ _ _ fun fs fd C h2 i h3=>?_);simp only[C,h2,h3]at h;simpa using h
 case call c =>
  obtain⟨l,j,u⟩:=c;cases l with
  | value f=>cases h
  | invoke r m=>cases h
  | builtin b =>
   cases b<;>first|(cases h;done)|skip
   change Fix P (do pure (Next.value (<- Builtin.len_ u A (j.map a.eval))))
   refine Zdo ?_;unfold Builtin.len_;cases B:u[0]? with
   | none=>simp[B]at h
   | some t =>
    simp only[B]at h;cases C:(j.map a.eval)[0]? with
    | none=>exact zakq _
    | some x =>
     have p:∃d,P.underlying t=some d/\((∃e,d=.slice e)\/d=.string\/∃n e,d=.array n e):=by
      unfold isLenType at h
      split at h
      ·rename_i e he;exact⟨_,he,.inl ⟨e,rfl⟩⟩
      ·rename_i he;exact⟨_,he,.inr (.inl rfl)⟩
      ·rename_i n e he;exact⟨_,he,.inr (.inr ⟨n,e,rfl⟩)⟩
      ·cases h
     obtain⟨d,p,H⟩:=p;dsimp only;intro w r q z;rw[Sem.run_bind,run_underlying p]at z;simp only[Result.andThen_ok]at z;have E:∀s:Sem Value,Fix P s->s.run P w=.ok r q->q=w/\∀w2,s.run P w2=.ok r w2:=fun s hs h=>hs w r q h
     have v:q=w/\∀w2,_:=E _ ?_ z
     ·refine⟨v.1,fun w2=>?_⟩;rw[Sem.run_bind,run_underlying p];exact v.2 w2
     ·rcases H with⟨e,rfl⟩|rfl|⟨n,e,rfl⟩<;>(split<;>first|exact zahq _|exact zakq _|simp_all)
theorem quiet_run{a:Act}{o:Oper}(h:Zck P o=true)(hb:Zg4 a o=true){w:World}{r:Next}{w':World}(hr:(execOp a.eval o).run P w=.ok r w'):w'=w/\∃v,r=.value v:=by
 by_cases d:Zuw P o=true
 ·refine⟨(pure_fix d hb w r w' hr).1,?_⟩;obtain⟨p,k,g,pos,after,i⟩:=o;cases k<;>simp only[Zuw,Bool.false_eq_true]at d<;>simp only[execOp]at hr
  case move=>simp only[Sem.run_pure]at hr;injection hr with h1 _;exact⟨_,h1.symm⟩
  case assign=>simp only[Sem.run_pure]at hr;injection hr with h1 _;exact⟨_,h1.symm⟩
  case pick c x y =>
   rw[Sem.run_bind]at hr;cases q:(asBool (a.eval c)).run P w with
   | ok b w1=>rw[q]at hr;simp only[Result.andThen_ok,Sem.run_pure]at hr;injection hr with h1 _;exact⟨_,h1.symm⟩
   | halt x w1=>rw[q]at hr;cases hr
  case call c =>
   obtain⟨e,j,l⟩:=c;cases e with
   | value f=>cases d
   | invoke r m=>cases d
   | builtin b =>
    cases b<;>first|(cases d;done)|skip
    change (do pure (Next.value (<- Builtin.len_ l g (j.map a.eval))):Sem Next).run P w=_ at hr
    exact value_of hr
  all_goals exact value_of hr
 ·unfold Zck at h;simp only[d,Bool.false_or]at h;obtain⟨p,k,g,pos,after,i⟩:=o;cases k<;>simp only[isLoad,Bool.false_eq_true]at h
  case load t x =>
   simp only[execOp]at hr;refine⟨?_,value_of hr⟩;refine Zjj (P:=P) ?_ (fun _=>Zf8 (zahq _)) w r w' hr;unfold Instr.loadAt;refine Zjj (Zf8 (Zlu _)) fun ad=>?_
   unfold loadVar;refine Zjj (Zf8 (Zug _)) fun b=>?_
   split
   ·refine Zjj (Zf8 (Zc1 _)) fun n=>?_
    unfold loadCells;exact Zjj (Znw _ _ _ _) fun _=>Zf8 (zahq _)
   ·exact Ztq _
theorem Zpn{w w':World}{ad:Addr}(hb:w'.heap[ad.block]? = w.heap[ad.block]?)(b:∃c t d,w.heap[ad.block]? = some (.cells c t d)){v:Value}{w1:World}
  (h:(load ad).run P w=.ok v w1):(load ad).run P w'=.ok v w':=by
 have a:w'.cell? ad=w.cell? ad:=by unfold World.cell?;rw[hb]
 obtain⟨c,t,d,b⟩:=b;rw[run_load]at h ⊢;rw[a];cases e:w.cell? ad with
 | some u=>rw[e]at h;simp only[]at h ⊢;injection h with h1 _;rw[h1]
 | none=>rw[e]at h;simp[World.farLoad,b]at h
theorem Zxn{w w':World}{ad:Addr}(hb:w'.heap[ad.block]? = w.heap[ad.block]?)(hc:∃c t fr,w.heap[ad.block]? = some (.cells c t fr)) :
  ∀(n i:Nat) (acc:Array Value) (v:Array Value) (w1:World),(loadCellsFrom ad i n acc).run P w=.ok v w1->(loadCellsFrom ad i n acc).run P w'=.ok v w'
 | 0,i,acc,v,w1,h=>by
  unfold loadCellsFrom at h ⊢;simp only[Sem.run_pure]at h ⊢;injection h with h1 _;rw[h1]
 | n+1,i,acc,v,w1,h=>by
  unfold loadCellsFrom at h ⊢;rw[Sem.run_bind]at h ⊢;have a:(ad.add i).block=ad.block:=by unfold Addr.add;split<;>rfl
  cases b:(load (ad.add i)).run P w with
  | ok u w2 =>
   have d:=Ztq (P:=P) _ _ _ _ b;subst d;rw[Zpn (by rw[a];exact hb) (by rw[a];exact hc) b];rw[b]at h;simp only[Result.andThen_ok]at h ⊢;exact Zxn hb hc n _ _ _ _ h
  | halt x w2=>rw[b]at h;cases h
theorem load_same{a:Act}{o:Oper}{t:TypeId}{x:Operand}(ho:o.op=.load t x){ad:Addr}(hx:a.eval x=.pointer (some ad)){w w':World}
  (hb:w'.heap[ad.block]? = w.heap[ad.block]?) (hc:∃c t fr,w.heap[ad.block]? = some (.cells c t fr)) {r:Next} {w1:World} (h:(execOp a.eval o).run P w=.ok r w1) :
  (execOp a.eval o).run P w'=.ok r w':=by
 simp only[execOp,ho,hx,Instr.loadAt,Instr.sureAddr,pure_bind]at h ⊢;rw[Sem.run_bind]at h ⊢;have j:∀v e,(loadVar t ad).run P w=.ok v e->(loadVar t ad).run P w'=.ok v w':=by
  intro v e d;unfold loadVar at d ⊢;rw[Sem.run_bind]at d ⊢;cases f:(isAgg t).run P w with
  | ok b w3 =>
   obtain⟨k,l⟩:=Zug t w b w3 f;subst k;rw[l w'];rw[f]at d;simp only[Result.andThen_ok]at d ⊢
   split at d
   ·rw[if_pos (by assumption)];rw[Sem.run_bind]at d ⊢;cases i:(sizeOf t).run P w3 with
    | ok n w4 =>
     obtain⟨m,p⟩:=Zc1 t w3 n w4 i;subst m;rw[p w'];rw[i]at d;simp only[Result.andThen_ok,loadCells]at d ⊢;rw[Sem.run_bind]at d ⊢;cases g:(loadCellsFrom ad 0 n #[]).run P w4 with
     | ok cs w5 =>
      rw[Zxn hb hc n 0 #[] cs w5 g];rw[g]at d;simp only[Result.andThen_ok,Sem.run_pure]at d ⊢;injection d with h7 _;rw[h7]
     | halt x w5=>rw[g]at d;cases d
    | halt x w4=>rw[i]at d;cases d
   ·rw[if_neg (by assumption)];exact Zpn hb hc d
  | halt x w3=>rw[f]at d;cases d
 cases d:(loadVar t ad).run P w with
 | ok v e =>
  rw[j v e d];rw[d]at h;simp only[Result.andThen_ok,Sem.run_pure]at h ⊢;injection h with h1 _;rw[h1]
 | halt x e=>rw[d]at h;cases h
theorem Zzg{w:World}{ad:Addr}(h:(w.cell? ad).isSome=true):∃c t fr,w.heap[ad.block]? = some (.cells c t fr):=by
 unfold World.cell? at h
 split at h
 ·rename_i c t fr hh;exact⟨c,t,fr,hh⟩
 ·cases h
end ops
section order
variable {P : Program} {ops : Array Oper} {Q : Exit -> Act -> World -> Prop}
def NQ(Q:Exit->Act->World->Prop):Exit->Act->World->Prop
 | .normal,a,w=>Q .normal a w
 | _,_,_=>False
theorem NQ.out(h:LetsOut (NQ Q)):False:=by
 obtain⟨a,w,h⟩:=h;exact h
def KeepU(U:Nat->Prop)(w0 w:World):Prop:=∀b,U b->w.heap[b]? = w0.heap[b]?
def Zqc(P:Program)(ops:Array Oper)(Q:Exit->Act->World->Prop)(U:Nat->Prop)(w0:World):Nat->Array Bool->Act->World->Prop
 | 0,listed,a,w=>Region.ready .any ops listed=[]/\Q .normal a w
 | f+1,listed,a,w=>(Region.ready .any ops listed=[]->Q .normal a w) /\
  ∀j∈Region.ready .any ops listed,wpOp P ops (NQ Q) j (fun a' w'=>((∀oj,ops[j]? = some oj->Zck P oj=true->w'=w)/\KeepU U w0 w')/\Zqc P ops Q U w0 f (listed.setIfInBounds j true) a' w') a w
theorem Zhz{U:Nat->Prop}{w0:World}:∀(f:Nat) (listed:Array Bool) (a:Act) (w:World),Zqc P ops Q U w0 f listed a w->wpAny P .any ops (NQ Q) f listed a w
 | 0,_,_,_,h=>h
 | f+1,_,_,_,h=>⟨h.1,fun i hi=>wpOp_mono (fun a' w' h'=>Zhz f _ a' w' h'.2) (h.2 i hi)⟩
def View(ops:Array Oper)(oi:Oper)(a a':Act):Prop :=
 execOp a'.eval oi=execOp a.eval oi/\Region.wanted oi (yielded ops a'.tmps)=Region.wanted oi (yielded ops a.tmps)
theorem wpOp_swap{j:Nat}{oi oj:Oper}{v:Value}(hj:ops[j]? = some oj)(hap:oi.apart ops oj=true)
  (hsi:∀cs b,oi.op≠.select cs b) (hsj:∀cs b,oj.op≠.select cs b) {K:Act->World->Prop} {a:Act} {w:World}
  (h:wpOp P ops (NQ Q) j K (a.put oi.dst v) w):wpOp P ops (NQ Q) j (fun a' w'=>View ops oi a a'/\K (a'.put oi.dst v) w') a w:=by
 obtain⟨k,g,i⟩:=Oper.apart_spec hap;have keep:∀u,View ops oi a (a.put oj.dst u):=fun u=>⟨execOp_put oi hsi a oj.dst u i,wanted_put oi a oj.dst u i⟩
 unfold wpOp at *;simp only[hj]at *;rw[wanted_put oj a oi.dst v k]at h;by_cases l:Region.wanted oj (yielded ops a.tmps)=true
 ·rw[if_pos l]at h ⊢;rcases h with h|h
  case inr=>exact(NQ.out h.2).elim
  refine .inl ?_;unfold Oper.wp at *;rw[execOp_put oj hsj a oi.dst v k]at h;generalize (execOp a.eval oj).run P w=r at *;cases r with
  | ok n w' =>
   cases n<;>simp only[Oper.upon]at h ⊢
   case value u=>exact⟨keep u,by rw[<- Act.put_comm a v u g];exact h⟩
   case skip=>exact⟨keep undef,by rw[<- Act.put_comm a v undef g];exact h⟩
   case defer d =>
    refine⟨⟨execOp_put oi hsi { a with defers:=d::a.defers } oj.dst undef i,wanted_put oi { a with defers:=d::a.defers } oj.dst undef i⟩,?_⟩;rw[<- Act.put_comm _ v undef g,<- Act.put_defers];exact h
   case enter f args =>
    refine Calls.mono h fun e w'' he=>?_
    cases e with
    | returned u=>exact⟨keep u,by rw[<- Act.put_comm a v u g];exact he⟩
    | panicked c=>exact he
    | outgrown=>exact he
   case row row args=>exact Rows.mono h fun u w'' he=>⟨keep u,by rw[<- Act.put_comm a v u g];exact he⟩
  | halt x w'=>cases x<;>simp only[Oper.upon]at h ⊢ <;> exact h
 ·rw[if_neg l]at h ⊢;exact⟨keep undef,by rw[<- Act.put_comm a v undef g];exact h⟩
def YNow(P:Program)(ops:Array Oper)(o:Oper)(v:Value)(a:Act)(w:World):Prop :=
 (Region.wanted o (yielded ops a.tmps)=true/\(execOp a.eval o).run P w=.ok (.value v) w)\/(Region.wanted o (yielded ops a.tmps)=false/\v=undef)
theorem YNow.view{o:Oper}{v:Value}{a a':Act}{w:World}(h:YNow P ops o v a w)(hv:View ops o a a'):YNow P ops o v a' w:=by
 unfold YNow at *;rw[hv.1,hv.2];exact h
theorem YNow.wpOp{i:Nat}{o:Oper}{v:Value}{a:Act}{w:World}{R:Exit->Act->World->Prop}(hi:ops[i]? = some o)(hy:YNow P ops o v a w)
  {K:Act->World->Prop} (h:K (a.put o.dst v) w):wpOp P ops R i K a w:=by
 unfold Go.wpOp;simp only[hi];rcases hy with⟨b,c⟩|⟨b,rfl⟩
 ·rw[if_pos b];refine .inl ?_;unfold Oper.wp;rw[c];exact h
 ·rw[if_neg (by rw[b];exact Bool.false_ne_true)];exact h
def Closed(ops:Array Oper)(listed:Array Bool):Prop:=∀j oj,ops[j]? = some oj->listed.getD j false=true->∀e∈oj.after,Region.binds .any e=true->listed.getD e.on false=true
theorem Zhh{listed:Array Bool}{i:Nat}(h:listed.getD i true=false):listed.getD i false=false:=by
 rcases Nat.lt_or_ge i listed.size with a|a
 ·simp[a]at h ⊢;exact h
 ·simp[Array.getElem?_eq_none a]at h
theorem Closed.set{i:Nat}{listed:Array Bool}(hc:Closed ops listed)(hi:i∈Region.ready .any ops listed):Closed ops (listed.setIfInBounds i true):=by
 obtain⟨_,oi,h,b⟩:=mem_ready.1 hi;intro j k f g e d c;by_cases a:i=j
 ·subst a;have:k=oi:=Option.some.inj (f.symm.trans h);subst this;exact getD_set_true (b e d c)
 ·rw[getD_set_ne false a]at g;exact getD_set_true (hc j k f g e d c)
def without(ops:Array Oper)(i:Nat):Array Bool :=
 (List.range ops.size).foldl (fun G x=>G.push (x != i&&match ops[x]? with|some o=>o.after.all fun e=>!Region.binds .any e || G.getD e.on false|none=>false)) #[]
def Znq(ops:Array Oper)(i:Nat)(G:Array Bool):Bool :=
 !G.getD i false&&(List.range ops.size).all fun x=>x==i || G.getD x false || match ops[x]? with
  | some o=>o.after.any fun e=>Region.binds .any e&&decide (e.on<x) && !G.getD e.on false
  | none=>true
theorem without_sub{i:Nat}{G listed:Array Bool}(hG:Znq ops i G=true)(hc:Closed ops listed)(hi:listed.getD i false=false) :
  ∀x,x<ops.size->listed.getD x false=true->G.getD x false=true:=by
 intro x
 induction x using Nat.strongRecOn with
 | _ x ih =>
  intro g c;unfold Znq at hG;simp only[Bool.and_eq_true]at hG;have a:=List.all_eq_true.1 hG.2 x (List.mem_range.2 g);have f:ops[x]? = some ops[x]:=Array.getElem?_eq_getElem g;simp only[f,Bool.or_eq_true,beq_iff_eq]at a;rcases a with(a|a)|a
  ·subst a;rw[hi]at c;cases c
  ·exact a
  ·obtain⟨e,h,b⟩:=Array.any_eq_true'.1 a;simp only[Bool.and_eq_true,decide_eq_true_eq,Bool.not_eq_true']at b;have d:=ih e.on b.1.2 (by omega) (hc x _ f c e h b.1.1);rw[b.2]at d;cases d
theorem Zqb{i j:Nat}{G listed:Array Bool}(hG:Znq ops i G=true)(hc:Closed ops listed)(hi:listed.getD i false=false)
  (hj:j∈Region.ready .any ops listed) (hne:j≠i):G.getD j false=true:=by
 obtain⟨_,l,b,c⟩:=mem_ready.1 hj;have h:j<ops.size:=(Array.getElem?_eq_some_iff.1 b).1;have g:=hG;unfold Znq at hG;simp only[Bool.and_eq_true]at hG;have a:=List.all_eq_true.1 hG.2 j (List.mem_range.2 h);simp only[b,Bool.or_eq_true,beq_iff_eq]at a;rcases a with(a|a)|a
 ·exact absurd a hne
 ·exact a
 ·obtain⟨e,k,d⟩:=Array.any_eq_true'.1 a;simp only[Bool.and_eq_true,decide_eq_true_eq,Bool.not_eq_true']at d;have f:=without_sub g hc hi e.on (by omega) (c e k d.1.1);rw[d.2]at f;cases f
def LoadOk(P:Program)(ops:Array Oper)(i:Nat)(listed:Array Bool):Prop :=
 ∃G,Znq ops i G=true/\∀j oj,ops[j]? = some oj->Zck P oj=false->G.getD j false=true->listed.getD j false=true
def loadOkB(P:Program)(ops:Array Oper)(i:Nat)(listed:Array Bool):Bool :=
 Znq ops i (without ops i)&&(List.range ops.size).all fun j=>!(without ops i).getD j false || listed.getD j false || match ops[j]? with|some oj=>Zck P oj|none=>true
theorem loadOk_of{i:Nat}{listed:Array Bool}(h:loadOkB P ops i listed=true):LoadOk P ops i listed:=by
 unfold loadOkB at h;simp only[Bool.and_eq_true]at h;refine⟨_,h.1,fun j oj hj hq hg=>?_⟩;have a:=List.all_eq_true.1 h.2 j (List.mem_range.2 (Array.getElem?_eq_some_iff.1 hj).1);simp only[hj,hg,hq,Bool.not_true,Bool.false_or,Bool.or_false]at a;exact a
theorem LoadOk.set{i j:Nat}{listed:Array Bool}(h:LoadOk P ops i listed):LoadOk P ops i (listed.setIfInBounds j true) :=
 let ⟨G,hG,hh⟩:=h
 ⟨G,hG,fun k ok hk hq hg=>getD_set_true (hh k ok hk hq hg)⟩
def YieldsU(P:Program)(ops:Array Oper)(U:Nat->Prop)(w0:World)(o:Oper)(v:Value)(a:Act):Prop :=
 (Region.wanted o (yielded ops a.tmps)=true/\∀w,KeepU U w0 w->(execOp a.eval o).run P w=.ok (.value v) w)\/(Region.wanted o (yielded ops a.tmps)=false/\v=undef)
theorem YieldsU.view{U:Nat->Prop}{w0:World}{o:Oper}{v:Value}{a a':Act}(h:YieldsU P ops U w0 o v a)(hv:View ops o a a'):YieldsU P ops U w0 o v a':=by
 unfold YieldsU at *;rw[hv.1,hv.2];exact h
theorem YieldsU.now{U:Nat->Prop}{w0:World}{o:Oper}{v:Value}{a:Act}(h:YieldsU P ops U w0 o v a){w:World}(hk:KeepU U w0 w):YNow P ops o v a w:=h.imp (fun x=>⟨x.1,x.2 w hk⟩) id
theorem first{U:Nat->Prop}{w0:World}{i:Nat}{oi:Oper}{v:Value}(hi:ops[i]? = some oi)(hsel:∀(j:Nat) (o:Oper) cs b,ops[j]? = some o->o.op≠.select cs b) :
  ∀(f:Nat) (c:Array Bool) (a:Act) (w:World),Closed ops c->KeepU U w0 w ->
   (∀j g,ops[j]? = some g->j≠i->c.getD j true=false->(∀e∈g.after,Region.binds .any e=true->e.on≠i)->oi.apart ops g=true) ->
   i∈Region.ready .any ops c->YNow P ops oi v a w->(YieldsU P ops U w0 oi v a\/LoadOk P ops i c) ->
   Zqc P ops Q U w0 f (c.setIfInBounds i true) (a.put oi.dst v) w->Zqc P ops Q U w0 (f+1) c a w:=by
 intro f
 induction f with
 | zero =>
  intro c a w _ E _ p y _ H;refine⟨fun h=>(by rw[h]at p;cases p),fun j hj=>?_⟩;by_cases d:j=i
  ·subst d;exact y.wpOp hi ⟨⟨fun _ _ _=>rfl,E⟩,H⟩
  ·have:=ready_mono hj d;rw[H.1]at this;cases this
 | succ f ih =>
  intro c a w J E q p y B H;refine⟨fun h=>(by rw[h]at p;cases p),fun j hj=>?_⟩;by_cases d:j=i
  ·subst d;exact y.wpOp hi ⟨⟨fun _ _ _=>rfl,E⟩,H⟩
  ·have L:=H.2 j (ready_mono hj d);obtain⟨n,g,m,C⟩:=mem_ready.1 hj;have t:=Zhh (mem_ready.1 p).1;have D:∀e∈g.after,Region.binds .any e=true->e.on≠i:=fun e he hb heq=>by
    have x:=C e he hb;rw[heq,t]at x;cases x
   have x:=wpOp_swap m (q j g m d n D) (fun cs b=>hsel i oi cs b hi) (fun cs b=>hsel j g cs b m) L;have s:∀k ok,ops[k]? = some ok->k≠i->(c.setIfInBounds j true).getD k true=false ->
     (∀e∈ok.after,Region.binds .any e=true->e.on≠i)->oi.apart ops ok=true:=fun k ok hk hki hun hno=>by
    refine q k ok hk hki ?_ hno;by_cases z:j=k
    ·subst z;exact n
    ·rw[getD_set_ne true z]at hun;exact hun
   refine wpOp_mono (fun a' w' h3=>?_) x;obtain⟨l,⟨K,u⟩,r⟩:=h3;refine⟨⟨K,u⟩,?_⟩;rw[Array.setIfInBounds_comm _ _ (Ne.symm d)]at r;have F:YieldsU P ops U w0 oi v a'\/LoadOk P ops i (c.setIfInBounds j true):=B.imp (fun h=>h.view l) LoadOk.set;refine ih (c.setIfInBounds j true) a' w' (J.set hj) u s (ready_mono p (Ne.symm d)) ?_ F r;cases A:Zck P g with
   | true=>rw[K g m A];exact y.view l
   | false =>
    rcases B with h|⟨G,M,N⟩
    ·exact(h.view l).now u
    ·have I:=N j g m A (Zqb M J t hj d);rw[Zhh n]at I;cases I
def stepB(P:Program)(ops:Array Oper)(fl:List Nat)(k:Nat)(listed:Array Bool):Bool :=
 (Region.ready .any ops listed).contains k&&match ops[k]? with
  | some o=>Zck P o&&Region.free .any ops listed k&&(Zuw P o || fl.contains k || loadOkB P ops k listed)
  | none=>false
def Zxl(P:Program)(ops:Array Oper)(fl:List Nat):List Nat->Array Bool->Bool
 | [],listed=>(Region.ready .any ops listed).isEmpty
 | k::ks,listed=>(stepB P ops fl k listed || (Region.ready .any ops listed == [k]&&match ops[k]? with|some o=>!Zck P o|none=>false))&&Zxl P ops fl ks (listed.setIfInBounds k true)
def forkB(P:Program)(ops:Array Oper)(fl:List Nat)(brs:List (List Nat)):List Nat->Array Bool->Bool
 | [],listed=>brs.all (fun br=>match br with
   | k::ks=>Zxl P ops fl ks (listed.setIfInBounds k true)&&(match ops[k]? with|some o=>!Zck P o|none=>false)
   | []=>false)&&(Region.ready .any ops listed).all (fun j=>brs.any fun br=>br.head?==some j) && !(Region.ready .any ops listed).isEmpty
 | k::ks,listed=>stepB P ops fl k listed&&forkB P ops fl brs ks (listed.setIfInBounds k true)
def FlOk(U:Nat->Prop)(w0:World)(o:Oper)(a:Act):Prop :=
 match o.op with
 | .load _ x=>(∃ad,a.eval x=.pointer (some ad)/\U ad.block/\(w0.cell? ad).isSome=true)\/a.eval x=undef
 | _=>True
def cWalk(P:Program)(ops:Array Oper)(fl:List Nat)(U:Nat->Prop)(w0:World)(Q:Exit->Act->World->Prop):List Nat->Act->World->Prop
 | [],a,w=>Q .normal a w
 | k::ks,a,w=>(∀o,ops[k]? = some o->Zg4 a o=true/\(fl.contains k=true->FlOk U w0 o a)) /\
  wpOp P ops (NQ Q) k (fun a' w'=>(∀o,ops[k]? = some o->Zck P o=false->KeepU U w0 w')/\cWalk P ops fl U w0 Q ks a' w') a w
theorem Znk{U:Nat->Prop}{w0:World}{fl:List Nat}{k:Nat}{listed:Array Bool}{a:Act}{w:World}(hu:KeepU U w0 w)(hB:stepB P ops fl k listed=true) :
  k∈Region.ready .any ops listed/\∃o,ops[k]? = some o/\Region.free .any ops listed k=true/\Zck P o=true /\
   ∀K:Act->World->Prop,Zg4 a o=true->(fl.contains k=true->FlOk U w0 o a)->wpOp P ops (NQ Q) k K a w ->
    ∃v,YNow P ops o v a w/\(YieldsU P ops U w0 o v a\/LoadOk P ops k listed)/\K (a.put o.dst v) w:=by
 simp only[stepB,Bool.and_eq_true]at hB;obtain⟨B,j⟩:=hB;cases m:ops[k]? with
 | none=>rw[m]at j;cases j
 | some o =>
  simp only[m,Bool.and_eq_true]at j;obtain⟨⟨h,A⟩,f⟩:=j;refine⟨by simpa using B,o,rfl,A,h,fun K hb hfl e=>?_⟩;unfold wpOp at e;simp only[m]at e;by_cases b:Region.wanted o (yielded ops a.tmps)=true
  ·rw[if_pos b]at e;rcases e with e|e
   case inr=>exact(NQ.out e.2).elim
   unfold Oper.wp at e;cases d:(execOp a.eval o).run P w with
   | ok r w1 =>
    obtain⟨u,v,y⟩:=quiet_run h hb d;subst u;subst y;rw[d]at e;refine⟨v,.inl ⟨b,d⟩,?_,e⟩;simp only[Bool.or_eq_true]at f;rcases f with(f|f)|f
    ·exact .inl (.inl ⟨b,fun w2 _=>(pure_fix f hb _ _ _ d).2 w2⟩)
    ·by_cases q:Zuw P o=true
     ·exact .inl (.inl ⟨b,fun w2 _=>(pure_fix q hb _ _ _ d).2 w2⟩)
     ·refine .inl (.inl ⟨b,fun w2 hk2=>?_⟩);have i:=hfl f;unfold Zck at h;simp only[q,Bool.false_or]at h;unfold isLoad at h;unfold FlOk at i
      split at h
      ·rename_i t x hop;rw[hop]at i;simp only[]at i;rcases i with⟨D,n,l,z⟩|n
       ·obtain⟨c,C,s,p⟩:=Zzg z;exact load_same hop n ((hk2 _ l).trans (hu _ l).symm) ⟨c,C,s,(hu _ l).trans p⟩ d
       ·exfalso;simp[execOp,hop,n,undef,Instr.loadAt,Instr.sureAddr]at d
      ·cases h
    ·exact .inr (loadOk_of f)
   | halt x w1 =>
    rw[d]at e;cases x<;>exact e.elim
  ·rw[if_neg b]at e;have g:Region.wanted o (yielded ops a.tmps)=false:=by simpa using b
   exact⟨undef,.inr ⟨g,rfl⟩,.inl (.inr ⟨g,rfl⟩),e⟩
theorem Zlm{U:Nat->Prop}{w0:World}{fl:List Nat}(hs:Region.noSelect ops=true):∀(ord:List Nat) (listed:Array Bool) (a:Act) (w:World),Closed ops listed->KeepU U w0 w->Zxl P ops fl ord listed=true ->
  cWalk P ops fl U w0 Q ord a w->Zqc P ops Q U w0 ord.length listed a w
 | [],listed,a,w,_,_,hB,h=>⟨by simpa[Zxl]using hB,h⟩
 | k::ks,listed,a,w,hc,hu,hB,h=>by
  simp only[Zxl,Bool.and_eq_true,Bool.or_eq_true,beq_iff_eq]at hB;obtain⟨e,g⟩:=hB;obtain⟨l,n⟩:=h;rcases e with e|⟨e,c⟩
  ·obtain⟨b,o,d,q,s,H⟩:=Znk (Q:=Q) (a:=a) hu e;obtain⟨v,r,p,f⟩:=H _ (l o d).1 (l o d).2 n;exact first d (Region.noSelect_spec hs) ks.length listed a w hc hu (Region.free_spec d q) b r p (Zlm hs ks _ _ _ (hc.set b) hu g f.2)
  ·have b:k∈Region.ready .any ops listed:=by rw[e];exact List.mem_cons_self
   refine⟨fun h0=>(by rw[h0]at b;cases b),fun j hj=>?_⟩;rw[e]at hj;have m:j=k:=by simpa using hj
   subst m;cases d:ops[j]? with
   | none=>rw[d]at c;cases c
   | some o =>
    simp only[d,Bool.not_eq_true']at c;refine wpOp_mono (fun a' w' h'=>?_) n;have i:=h'.1 o d c;refine⟨⟨fun oj hoj hqj=>?_,i⟩,Zlm hs ks _ _ _ (hc.set b) i g h'.2⟩;have:oj=o:=Option.some.inj (hoj.symm.trans rfl);subst this;rw[c]at hqj;cases hqj
theorem fork_any{U:Nat->Prop}{w0:World}{fl:List Nat}{brs:List (List Nat)}{n:Nat}(hs:Region.noSelect ops=true)(hne:brs≠[])(hn:∀e∈brs,e.length=n):∀(pre:List Nat) (listed:Array Bool) (a:Act) (w:World),Closed ops listed->KeepU U w0 w ->
  forkB P ops fl brs pre listed=true->(∀e∈brs,cWalk P ops fl U w0 Q (pre++e) a w)->Zqc P ops Q U w0 (pre.length+n) listed a w
 | [],listed,a,w,hc,hu,hB,h=>by
  simp only[forkB,Bool.and_eq_true,Bool.not_eq_true']at hB;obtain⟨⟨r,t⟩,s⟩:=hB;obtain⟨p,d⟩:=List.exists_mem_of_ne_nil _ hne;have q:=List.all_eq_true.1 r p d;cases p with
  | nil=>cases q
  | cons k0 ks0 =>
   have x:=hn _ d;simp only[List.length_cons]at x;rw[List.length_nil,Nat.zero_add,<- x];refine⟨fun b=>(by rw[b]at s;cases s),fun j hj=>?_⟩;have E:=List.all_eq_true.1 t j hj;obtain⟨e,f,l⟩:=List.any_eq_true.1 E;cases e with
   | nil=>cases l
   | cons k ks =>
    have F:k=j:=by simpa using l
    subst F;have b:=List.all_eq_true.1 r _ f;simp only[Bool.and_eq_true]at b;have C:=h _ f;simp only[List.nil_append]at C;have G:=hn _ f;simp only[List.length_cons]at G;cases c:ops[k]? with
    | none=>rw[c]at b;cases b.2
    | some o =>
     simp only[c,Bool.not_eq_true']at b;refine wpOp_mono (fun a' w' h'=>?_) C.2;have z:=h'.1 o c b.2;have i:ks0.length=ks.length:=by omega
     refine⟨⟨fun oj hoj hqj=>?_,z⟩,by rw[i];exact Zlm hs ks _ _ _ (hc.set hj) z b.1 h'.2⟩;have:oj=o:=Option.some.inj (hoj.symm.trans rfl);subst this;rw[b.2]at hqj;cases hqj
 | k::ks,listed,a,w,hc,hu,hB,h=>by
  simp only[forkB,Bool.and_eq_true]at hB;obtain⟨M,D⟩:=hB;obtain⟨y,o,c,L,R,H⟩:=Znk (Q:=Q) (a:=a) hu M;obtain⟨p,d⟩:=List.exists_mem_of_ne_nil _ hne;have q:=h _ d;obtain⟨v,I,K,_⟩:=H _ (q.1 o c).1 (q.1 o c).2 q.2;have u:∀e∈brs,cWalk P ops fl U w0 Q (ks++e) (a.put o.dst v) w:=fun e f=>by
   have b:=h _ f;obtain⟨O,J,_,N⟩:=H _ (b.1 o c).1 (b.1 o c).2 b.2;have:O=v:=by
    rcases I with⟨B,A⟩|⟨B,A⟩<;>rcases J with⟨g,m⟩|⟨g,m⟩
    ·rw[A]at m;injection m with h3 _;injection h3 with h3;exact h3.symm
    ·rw[B]at g;cases g
    ·rw[B]at g;cases g
    ·rw[A,m]
   subst this;exact N.2
  have i:(k::ks).length+n=(ks.length+n)+1:=by simp only[List.length_cons];omega
  rw[i];exact first c (Region.noSelect_spec hs) _ listed a w hc hu (Region.free_spec c L) y I K (fork_any hs hne hn ks _ _ _ (hc.set y) hu D u)
def ChkQ(l:List Oper)(Q:Exit->Act->World->Prop):Exit->Act->World->Prop
 | .normal,a,w=>l.all (Zg4 a)=true/\Q .normal a w
 | _,_,_=>False
theorem chk{l:List Oper}{a:Act}{w:World}(h:l.all (Zg4 a)=true)(hQ:Q .normal a w):ChkQ l Q .normal a w:=⟨h,hQ⟩
theorem reach{R:Exit->Act->World->Prop}(φ:Act->Prop)(hQ:∀a w,R .normal a w->φ a)(hno:∀e a w,R e a w->e=.normal)
  (hdef:∀a d,φ { a with defers:=d }->φ a):∀(l:List Oper) (a:Act) (w:World),(∀o∈l,∀a v,φ (a.put o.dst v)->φ a)->wpList P ops R l a w->φ a
 | [],a,w,_,h=>hQ a w h
 | o::l,a,w,hput,h=>by
  have g:=fun a w=>reach φ hQ hno hdef l a w fun o' ho'=>hput o' (List.mem_cons_of_mem _ ho')
  have b:=hput o List.mem_cons_self;unfold wpList at h;by_cases k:Region.wanted o (yielded ops a.tmps)=true
  ·rw[if_pos k]at h;rcases h with h|⟨_,p,j,h⟩
   case inr=>cases hno _ _ _ h
   unfold Oper.wp at h;generalize (execOp a.eval o).run P w=r at *;cases r with
   | ok n j =>
    cases n<;>simp only[Oper.upon]at h
    case value u=>exact b _ _ (g _ _ h)
    case skip=>exact b _ _ (g _ _ h)
    case defer d=>exact hdef _ _ (b _ _ (g _ _ h))
    case enter f args =>
     obtain⟨e,m,q,i,_⟩:=h [];cases e with
     | returned u=>exact b _ _ (g _ _ i)
     | panicked c=>cases hno _ _ _ i
     | outgrown=>obtain⟨p,j,h⟩:=i;cases hno _ _ _ h
    case row row args =>
     obtain⟨u,m,i,_⟩:=h default [];exact b _ _ (g _ _ i)
   | halt x j =>
    cases x<;>simp only[Oper.upon]at h
    cases hno _ _ _ h
  ·rw[if_neg k]at h;exact b _ _ (g _ _ h)
def Znx(o:Oper):List Tmp :=
 match o.op with
 | .binOp _ _ x y _=>[x,y].filterMap fun | .tmp t=>some t|_=>none
 | .convert _ _ x=>[x].filterMap fun | .tmp t=>some t|_=>none
 | .load _ x=>[x].filterMap fun | .tmp t=>some t|_=>none
 | _=>[]
theorem Ztm{o:Oper}{dst:Option Tmp}{a:Act}{v:Value}(h:∀d,dst=some d->d ∉ Znx o):Zg4 (a.put dst v) o=Zg4 a o:=by
 obtain⟨f,c,i,pos,after,e⟩:=o;cases c<;>simp only[Zg4]
 case binOp c t x y ty =>
  have b:(a.put dst v).eval x=a.eval x:=Act.eval_put fun d hd hxd=>h d hd (by subst hxd;simp[Znx])
  have g:(a.put dst v).eval y=a.eval y:=Act.eval_put fun d hd hxd=>h d hd (by
   subst hxd;cases x<;>simp[Znx])
  rw[b,g]
 case convert s d x =>
  have b:(a.put dst v).eval x=a.eval x:=Act.eval_put fun d hd hxd=>h d hd (by subst hxd;simp[Znx])
  rw[b]
theorem flOk_put{U:Nat->Prop}{w0:World}{o:Oper}{dst:Option Tmp}{a:Act}{v:Value}(h:∀d,dst=some d->d ∉ Znx o)(hf:FlOk U w0 o (a.put dst v)):FlOk U w0 o a:=by
 obtain⟨c,f,g,pos,after,b⟩:=o;cases f<;>simp only[FlOk]at hf ⊢
 case load t x =>
  have e:(a.put dst v).eval x=a.eval x:=Act.eval_put fun d hd hxd=>h d hd (by subst hxd;simp[Znx])
  rw[e]at hf;exact hf
def SegQ(K:Act->World->Prop):Exit->Act->World->Prop
 | .normal,a,w=>K a w
 | _,_,_=>False
def Zsg(P:Program)(l:List Oper)(fl:List Nat)(U:Nat->Prop)(w0:World)(Q:Exit->Act->World->Prop):List (List Nat)->Act->World->Prop
 | [],a,w=>(l.all (Zg4 a)=true/\∀k∈fl,FlOk U w0 (l.getD k default) a)/\Q .normal a w
 | seg::segs,a,w=>wpList P l.toArray (SegQ fun a' w'=>KeepU U w0 w'/\Zsg P l fl U w0 Q segs a' w') (seg.map fun k=>l.getD k default) a w
theorem reachS{l:List Oper}{fl:List Nat}{U:Nat->Prop}{w0:World}(φ:Act->Prop)(hQ:∀a,(l.all (Zg4 a)=true/\∀k∈fl,FlOk U w0 (l.getD k default) a)->φ a)
  (hdef:∀a d,φ { a with defers:=d }->φ a):∀(segs:List (List Nat)) (a:Act) (w:World),(∀k∈segs.flatten,∀a v,φ (a.put (l.getD k default).dst v)->φ a) ->
  Zsg P l fl U w0 Q segs a w->φ a
 | [],a,w,_,h=>hQ a h.1
 | seg::segs,a,w,hput,h=>by
  refine reach (ops:=l.toArray) φ (fun a w hh=>reachS φ hQ hdef segs a w (fun k b=>hput k (by rw[List.flatten_cons];exact List.mem_append_right _ b)) hh.2) (fun e a w hh=>?_) hdef _ a w (fun o ho=>?_) h
  ·cases e<;>first|rfl|exact hh.elim
  ·obtain⟨k,b,rfl⟩:=List.mem_map.1 ho;exact hput k (by rw[List.flatten_cons];exact List.mem_append_left _ b)
def ssaB(l:List Oper):List Nat->Bool
 | []=>true
 | k::ks=>(k::ks).all (fun k'=>match (l.getD k' default).dst with|some d=>!(Znx (l.getD k default)).contains d|none=>true)&&ssaB l ks
def segB(P:Program)(l:List Oper):List Nat->Bool
 | []=>true
 | [_]=>true
 | k::ks=>Zck P (l.getD k default)&&segB P l ks
theorem Zkf{l:List Oper}{fl:List Nat}{U:Nat->Prop}{w0:World}:∀(segs:List (List Nat)) (seg:List Nat) (a:Act) (w:World),(∀k∈seg++segs.flatten,k<l.length)->(∀s∈segs,segB P l s=true)->segB P l seg=true ->
  ssaB l (seg++segs.flatten)=true->wpList P l.toArray (SegQ fun q j=>KeepU U w0 j/\Zsg P l fl U w0 Q segs q j) (seg.map fun k=>l.getD k default) a w ->
  cWalk P l.toArray fl U w0 Q (seg++segs.flatten) a w
 | [],[],a,w,_,_,_,_,h=>h.2.2
 | seg::segs,[],a,w,hlt,hq,_,hS,h=>by
  rw[List.nil_append,List.flatten_cons]at hlt hS ⊢;exact Zkf segs seg a w hlt (fun s hs=>hq s (List.mem_cons_of_mem _ hs)) (hq _ List.mem_cons_self) hS h.2
 | segs,k::ks,a,w,hlt,hq,hqs,hS,h=>by
  have y:k<l.length:=hlt k (by simp);have i:l.toArray[k]? = some (l.getD k default):=by simp[List.getD,y]
  simp only[List.cons_append,ssaB,Bool.and_eq_true]at hS;have z:l.getD k default∈l:=by
   have:l.getD k default=l[k]:=by simp[List.getD,y]
   rw[this];exact List.getElem_mem y
  have m:∀φ:Act->Prop,(∀a,(l.all (Zg4 a)=true/\∀k∈fl,FlOk U w0 (l.getD k default) a)->φ a)->(∀a d,φ { a with defers:=d }->φ a) ->
    (∀g∈k::(ks++segs.flatten),∀a v,φ (a.put (l.getD g default).dst v)->φ a)->φ a:=fun φ hφ hdef hput=>by
   refine reach (ops:=l.toArray) φ (fun a w hh=>reachS (P:=P) (Q:=Q) φ hφ hdef segs a w (fun k y=>hput k (by simp[y])) hh.2) (fun e a w hh=>?_) hdef _ a w (fun o b=>?_) h
   ·cases e<;>first|rfl|exact hh.elim
   ·obtain⟨g,f,rfl⟩:=List.mem_map.1 b;exact hput g (by rcases List.mem_cons.1 f with h|h<;>simp[h])
  have t:∀g∈k::(ks++segs.flatten),∀d,(l.getD g default).dst=some d->d ∉ Znx (l.getD k default):=fun g f d hd=>by
   have A:=List.all_eq_true.1 hS.1 g f;rw[hd]at A;simpa using A
  refine⟨fun o b=>?_,?_⟩
  ·rw[i]at b;have b:=Option.some.inj b;subst b;refine⟨?_,fun hfl=>?_⟩
   ·refine m (fun a=>Zg4 a (l.getD k default)=true) (fun a hc=>List.all_eq_true.1 hc.1 _ z) (fun a d h=>h) (fun g f a v hv=>?_);rw[Ztm (t g f)]at hv;exact hv
   ·exact m (fun a=>FlOk U w0 (l.getD k default) a) (fun a hc=>hc.2 k (by simpa using hfl)) (fun a d h=>by
     unfold FlOk at h ⊢;exact h) (fun g f a v hv=>flOk_put (t g f) hv)
  ·have C:=fun a w=>Zkf (fl:=fl) (U:=U) (w0:=w0) segs ks a w (fun g f=>hlt g (by simp only[List.cons_append,List.mem_cons];exact .inr f)) hq (by
    cases ks with
    | nil=>rfl
    | cons k2 ks2=>simp only[segB,Bool.and_eq_true]at hqs;exact hqs.2) hS.2
   have p:∀a w,wpList P l.toArray (SegQ fun q j=>KeepU U w0 j/\Zsg P l fl U w0 Q segs q j) (ks.map fun k=>l.getD k default) a w ->
     ∀o,l.toArray[k]? = some o->Zck P o=false->KeepU U w0 w:=fun a w h o b hqo=>by
    rw[i]at b;have b:=Option.some.inj b;subst b;cases ks with
    | nil=>exact h.1
    | cons k2 ks2=>simp only[segB,Bool.and_eq_true]at hqs;rw[hqs.1]at hqo;cases hqo
   unfold wpOp;simp only[i];simp only[List.map_cons]at h;unfold wpList at h;by_cases B:Region.wanted (l.getD k default) (yielded l.toArray a.tmps)=true
   ·rw[if_pos B]at h ⊢;rcases h with h|⟨_,q,j,h⟩
    case inr=>exact h.elim
    refine .inl ?_;refine Oper.wp_mono (Q:=NQ Q) (fun a w h=>⟨fun o b=>p a w h o (i.trans b),C a w h⟩) ?_;unfold Oper.wp at h ⊢;generalize (execOp a.eval (l.getD k default)).run P w=r at *;cases r with
    | ok n j =>
     cases n<;>simp only[Oper.upon]at h ⊢ <;> first
      | exact h
      | (
        refine Calls.mono h fun e w'' he=>?_
        cases e with
        | returned u=>exact he
        | panicked c=>exact he
        | outgrown=>obtain⟨q,j,h⟩:=he;exact h.elim)
    | halt x j=>cases x<;>simp only[Oper.upon]at h ⊢ <;> exact h
   ·rw[if_neg B]at h ⊢;exact⟨fun o b=>p _ _ h o (i.trans b),C _ _ h⟩
termination_by segs seg=>(segs.length,seg.length)
theorem Zc3(n:Nat):Closed ops (Array.replicate n false):=fun j oj _ hl=>by
 have:(Array.replicate n false).getD j false=false:=by
  rcases Nat.lt_or_ge j n with h|h<;>simp[h]
 rw[this]at hl;cases hl
def planB(P:Program)(l:List Oper)(fl:List Nat)(pre:List Nat)(brs:List (List (List Nat))):Bool :=
 Region.noSelect l.toArray&&forkB P l.toArray fl (brs.map List.flatten) pre (Array.replicate l.length false) && !brs.isEmpty &&
 brs.all fun br=>ssaB l (pre++br.flatten)&&(pre++br.flatten).all (decide <| · < l.length)&&decide (pre.length+br.flatten.length=l.length) &&
  br.all (segB P l)&&(match br with|s::_=>segB P l (pre++s) | []=>false)
theorem wp_region_plan{id:Nat}{l:List Oper}{a:Act}{w:World}(fl:List Nat)(U:Nat->Prop)(pre:List Nat)(brs:List (List (List Nat)))(hm:P.follows .mixedOrders=true)(hc:planB P l fl pre brs=true)
  (h:∀br∈brs,Zsg P l fl U w.drew Q (match br with|s::r=>(pre++s)::r | []=>[]) a w.drew):(Code.region id l.toArray true).wp P Q a w:=by
 simp only[planB,Bool.and_eq_true,Bool.not_eq_true']at hc;obtain⟨⟨⟨x,u⟩,j⟩,d⟩:=hc;have q:∀br∈brs.map List.flatten,br.length=l.length-pre.length:=fun br hbr=>by
  obtain⟨b,g,rfl⟩:=List.mem_map.1 hbr;have c:=List.all_eq_true.1 d b g;simp only[Bool.and_eq_true,decide_eq_true_eq]at c;omega
 have n:brs.map List.flatten≠[]:=by
  intro t;have:brs=[]:=by simpa using t
  subst this;cases j
 have y:pre.length<=l.length:=by
  cases brs with
  | nil=>cases j
  | cons b bs =>
   have c:=List.all_eq_true.1 d b List.mem_cons_self;simp only[Bool.and_eq_true,decide_eq_true_eq]at c;omega
 have c:=fork_any (P:=P) (Q:=Q) (U:=U) (w0:=w.drew) x n q pre (Array.replicate l.length false) a w.drew (Zc3 _) (fun _ _=>rfl) u (fun br hbr=>by
  obtain⟨b,g,rfl⟩:=List.mem_map.1 hbr;have c:=List.all_eq_true.1 d b g;simp only[Bool.and_eq_true,decide_eq_true_eq]at c;obtain⟨⟨⟨⟨p,i⟩,_⟩,v⟩,f⟩:=c;have o:=h b g;cases b with
  | nil=>cases f
  | cons s r =>
   simp only[]at f o;rw[List.flatten_cons,<- List.append_assoc]at p i ⊢;exact Zkf r (pre++s) a w.drew (fun k hk=>by simpa using List.all_eq_true.1 i k hk) (fun s' hs'=>List.all_eq_true.1 v s' (List.mem_cons_of_mem _ hs')) f p o)
 have m:pre.length+(l.length-pre.length)=l.toArray.size:=by simp;omega
 rw[m]at c;refine Code.wp_mono (Q:=NQ Q) (fun e a w h=>?_) (wp_region_any hm (Zhz _ _ _ _ c));cases e<;>first|exact h|exact h.elim
theorem seg_begin{l:List Oper}{fl:List Nat}{U:Nat->Prop}{w0:World}{seg:List Nat}{segs:List (List Nat)}{a:Act}{w:World}
  (h:wpList P l.toArray (SegQ fun a' w'=>KeepU U w0 w'/\Zsg P l fl U w0 Q segs a' w') (seg.map fun k=>l.getD k default) a w):Zsg P l fl U w0 Q (seg::segs) a w:=h
theorem seg_end{K:Act->World->Prop}{U:Nat->Prop}{w0:World}{a:Act}{w:World}(h1:KeepU U w0 w)(h2:K a w):SegQ (fun a' w'=>KeepU U w0 w'/\K a' w') .normal a w:=⟨h1,h2⟩
theorem seg_done{l:List Oper}{fl:List Nat}{U:Nat->Prop}{w0:World}{a:Act}{w:World}(h1:l.all (Zg4 a)=true)(h2:∀k∈fl,FlOk U w0 (l.getD k default) a)(hQ:Q .normal a w):Zsg P l fl U w0 Q [] a w:=⟨⟨h1,h2⟩,hQ⟩
def noKeep:Nat->Prop:=fun _=>False
theorem Zke{l:List Oper}{w0:World}:∀(ord:List Nat) (a:Act) (w:World),(∀k∈ord,k<l.length)->ssaB l ord=true ->
  wpList P l.toArray (ChkQ l Q) (ord.map fun k=>l.getD k default) a w->cWalk P l.toArray [] noKeep w0 Q ord a w
 | [],a,w,_,_,h=>h.2
 | k::ks,a,w,hlt,hS,h=>by
  have g:k<l.length:=hlt k List.mem_cons_self;have f:l.toArray[k]? = some (l.getD k default):=by simp[List.getD,g]
  simp only[ssaB,Bool.and_eq_true]at hS;refine⟨fun o i=>⟨?_,fun hfl=>by cases hfl⟩,?_⟩
  ·rw[f]at i;have i:=Option.some.inj i;subst i;refine reach (P:=P) (ops:=l.toArray) (R:=ChkQ l Q) (fun a=>Zg4 a (l.getD k default)=true) (fun a w hc=>?_) (fun e a w hc=>?_) (fun a d h=>?_) _ a w (fun o' ho' a v hv=>?_) h
   ·exact List.all_eq_true.1 hc.1 (l.getD k default) (by
     have:l.getD k default=l[k]:=by simp[List.getD,g]
     rw[this];exact List.getElem_mem g)
   ·cases e<;>first|rfl|exact hc.elim
   ·exact h
   ·obtain⟨y,p,rfl⟩:=List.mem_map.1 ho';have m:=List.all_eq_true.1 hS.1 y p;rw[Ztm (fun d hd=>by rw[hd]at m;simpa using m)]at hv;exact hv
  ·unfold wpOp;simp only[f];have s:=fun a w=>Zke (w0:=w0) ks a w (fun k g=>hlt k (List.mem_cons_of_mem _ g)) hS.2
   simp only[List.map_cons]at h;unfold wpList at h;by_cases q:Region.wanted (l.getD k default) (yielded l.toArray a.tmps)=true
   ·rw[if_pos q]at h ⊢;rcases h with h|⟨_,t,j,h⟩
    case inr=>exact h.elim
    refine .inl ?_;refine Oper.wp_mono (Q:=NQ Q) (fun a w h=>⟨fun _ _ _ b hb=>hb.elim,s a w h⟩) ?_;unfold Oper.wp at h ⊢;generalize (execOp a.eval (l.getD k default)).run P w=r at *;cases r with
    | ok n j =>
     cases n<;>simp only[Oper.upon]at h ⊢ <;> first
      | exact h
      | (
        refine Calls.mono h fun e w'' he=>?_
        cases e with
        | returned u=>exact he
        | panicked c=>exact he
        | outgrown=>obtain⟨t,j,h⟩:=he;exact h.elim)
    | halt x j=>cases x<;>simp only[Oper.upon]at h ⊢ <;> exact h
   ·rw[if_neg q]at h ⊢;exact⟨fun _ _ _ b hb=>hb.elim,s _ _ h⟩
def Zxo(P:Program)(l:List Oper)(ord:List Nat):Bool :=
 Region.noSelect l.toArray&&Zxl P l.toArray [] ord (Array.replicate l.length false)&&ssaB l ord&&ord.all (decide <| · < l.length)&&ord.length==l.length
theorem wp_region_canon{id:Nat}{l:List Oper}{a:Act}{w:World}(ord:List Nat)(hm:P.follows .mixedOrders=true)(hc:Zxo P l ord=true)
  (h:wpList P l.toArray (ChkQ l Q) (ord.map fun k=>l.getD k default) a w.drew):(Code.region id l.toArray true).wp P Q a w:=by
 simp only[Zxo,Bool.and_eq_true,beq_iff_eq]at hc;obtain⟨⟨⟨⟨j,g⟩,i⟩,f⟩,b⟩:=hc;have c:∀k∈ord,k<l.length:=fun k hk=>by simpa using List.all_eq_true.1 f k hk
 have d:=Zlm (P:=P) (Q:=Q) (U:=noKeep) (w0:=w.drew) j ord (Array.replicate l.length false) a w.drew (Zc3 _) (fun _ hb=>hb.elim) g (Zke ord a _ c i h);rw[b]at d;refine Code.wp_mono (Q:=NQ Q) (fun e a w h=>?_) (wp_region_any hm (Zhz _ _ _ _ (by simpa using d)));cases e<;>first|exact h|exact h.elim
theorem wp_region_text{id:Nat}{l:List Oper}{a:Act}{w:World}(hm:P.follows .mixedOrders=true)(hc:Zxo P l (List.range l.length)=true)
  (h:wpList P l.toArray (ChkQ l Q) l a w.drew):(Code.region id l.toArray true).wp P Q a w:=by
 refine wp_region_canon (List.range l.length) hm hc ?_;have:(List.range l.length).map (fun k=>l.getD k default)=l:=by
  apply List.ext_getElem
  ·simp
  ·intro n c b;simp[List.getD,b]
 rw[this];exact h
