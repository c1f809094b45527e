/- Plain: labels of corners that give way round by round come to the least corner of each sector; no program in sight. -/
import Derived.Test.YtpbdcppaiafbgaaGreatHP
namespace Go.Mesh
section
variable {N : Int} {T : List T3} {C : List (Int × Int)}
def rlx (T:List T3) (C:List (Int × Int)) (f:Nat->Nat) (c:Nat):Nat->Nat :=
 match aft T c with
 | some d=>if ctB T C d then f else fun x=>if x=c\/x=d then min (f c) (f d) else f x
 | none=>f
def rndK (T:List T3) (C:List (Int × Int)) (f:Nat->Nat):Nat->Nat->Nat
 | 0=>f
 | k+1=>rlx T C (rndK T C f k) k
def lrnd (T:List T3) (C:List (Int × Int)):Nat->Nat->Nat
 | 0=>id
 | r+1=>rndK T C (lrnd T C r) (3 * T.length)
def LabOk (T:List T3) (C:List (Int × Int)) (f:Nat->Nat):Prop:=∀ c,c<3 * T.length->Sect T C (f c) c/\f c<=c
theorem rlx_cases (f:Nat->Nat) (c:Nat):rlx T C f c=f\/∃ d,aft T c=some d/\¬ ctB T C d/\rlx T C f c=fun x=>if x=c\/x=d then min (f c) (f d) else f x:=by
 unfold rlx
 cases a:aft T c with
 | none=>exact .inl rfl
 | some d =>
  by_cases h:ctB T C d
  ·left;simp only [if_pos h]
  ·right;exact ⟨d,rfl,h,by simp only [if_neg h]⟩
theorem rlx_ok (hs:Surf N T) {f:Nat->Nat} (h:LabOk T C f) {c:Nat} (hc:c<3 * T.length):LabOk T C (rlx T C f c)/\∀ x,x<3 * T.length->Head T C (f x)->rlx T C f c x=f x:=by
 rcases rlx_cases (T:=T) (C:=C) f c with e | ⟨d,l,p,e⟩
 ·rw [e]
  exact ⟨h,fun _ _ _=>rfl⟩
 ·rw [e]
  have o:=(hs.aft_iff.1 l).1
  have g:=Sect.step hc l p
  obtain ⟨j,m⟩:=h c hc
  obtain ⟨k,n⟩:=h d o
  have i:Sect T C (f c) (f d):=(j.trans g).trans k.symm
  refine ⟨fun x hx=>?_,fun x hx hh=>?_⟩
  ·by_cases a:x=c\/x=d
   ·simp only [if_pos a]
    rcases Nat.le_total (f c) (f d) with b | b
    ·rw [Nat.min_eq_left b]
     rcases a with rfl | rfl
     ·exact ⟨j,m⟩
     ·exact ⟨j.trans g,by omega⟩
    ·rw [Nat.min_eq_right b]
     rcases a with rfl | rfl
     ·exact ⟨k.trans g.symm,by omega⟩
     ·exact ⟨k,n⟩
   ·simp only [if_neg a]
    exact h x hx
  ·by_cases a:x=c\/x=d
   ·simp only [if_pos a]
    rcases a with rfl | rfl
    ·have:¬ f d<f x:=fun b=>hh _ b i.symm
     omega
    ·have:¬ f c<f x:=fun b=>hh _ b i
     omega
   ·simp only [if_neg a]
theorem rndK_ok (hs:Surf N T) {f:Nat->Nat} (h:LabOk T C f):∀ k,k<=3 * T.length->LabOk T C (rndK T C f k)/\∀ x,x<3 * T.length->Head T C (f x)->rndK T C f k x=f x
 | 0,_=>⟨h,fun _ _ _=>rfl⟩
 | k+1,hk=>by
  obtain ⟨a,b⟩:=rndK_ok hs h k (by omega)
  obtain ⟨d,g⟩:=rlx_ok hs a (c:=k) (by omega)
  refine ⟨d,fun x hx hh=>?_⟩
  have e:=b x hx hh
  show rlx T C (rndK T C f k) k x=f x
  rw [g x hx (by rw [e];exact hh),e]
theorem id_ok:LabOk T C id:=fun c _=>⟨Sect.refl c,Nat.le_refl c⟩
theorem lrnd_lab (hs:Surf N T):∀ r,LabOk T C (lrnd T C r)
 | 0=>id_ok
 | r+1=>(rndK_ok hs (lrnd_lab hs r) _ (Nat.le_refl _)).1
theorem rndK_beside (hs:Surf N T) {f:Nat->Nat} (h:LabOk T C f) {c d:Nat} (hc:c<3 * T.length) (ha:aft T c=some d) (hn:¬ ctB T C d) (a:Head T C (f c)\/Head T C (f d)) :
  ∀ k,c<k->k<=3 * T.length->Head T C (rndK T C f k c)/\Head T C (rndK T C f k d)
 | 0,h0,_=>absurd h0 (Nat.not_lt_zero c)
 | k+1,h0,hk=>by
  have i:=(hs.aft_iff.1 ha).1
  obtain ⟨g,m⟩:=rndK_ok hs h k (by omega)
  have n:=rlx_ok hs g (c:=k) (by omega)
  by_cases p:c=k
  ·subst p
   have o:=Sect.step hc ha hn
   have r:Head T C (rndK T C f c c)\/Head T C (rndK T C f c d):=by
    rcases a with a | a
    ·left;rw [m c hc a];exact a
    ·right;rw [m d i a];exact a
   obtain ⟨s,_⟩:=g c hc
   obtain ⟨t,_⟩:=g d i
   have b:Sect T C (rndK T C f c c) (rndK T C f c d):=(s.trans o).trans t.symm
   have e:rlx T C (rndK T C f c) c=fun x=>if x=c\/x=d then min (rndK T C f c c) (rndK T C f c d) else rndK T C f c x:=by
    unfold rlx
    rw [ha]
    simp only [if_neg hn]
   show Head T C (rlx T C (rndK T C f c) c c)/\Head T C (rlx T C (rndK T C f c) c d)
   rw [e]
   simp only [true_or,or_true,if_true]
   have q:Head T C (min (rndK T C f c c) (rndK T C f c d)):=by
    rcases r with a | a
    ·have:¬ rndK T C f c d<rndK T C f c c:=fun hl=>a _ hl b.symm
     rw [Nat.min_eq_left (by omega)];exact a
    ·have:¬ rndK T C f c c<rndK T C f c d:=fun hl=>a _ hl b
     rw [Nat.min_eq_right (by omega)];exact a
   exact ⟨q,q⟩
  ·obtain ⟨j,l⟩:=rndK_beside hs h hc ha hn a k (by omega) (by omega)
   show Head T C (rlx T C (rndK T C f k) k c)/\Head T C (rlx T C (rndK T C f k) k d)
   rw [n.2 c hc j,n.2 d i l]
   exact ⟨j,l⟩
open Classical in
noncomputable def many (T : List T3) (C : List (Int × Int)) (f : Nat -> Nat) : Nat := (List.range (3 * T.length)).countP fun c => decide (Head T C (f c))
theorem countP_lt {α:Type} {p q:α->Bool}:∀ {l:List α},(∀ x∈l,p x=true->q x=true)->∀ {a:α},a∈l->p a=false->q a=true->l.countP p<l.countP q
 | [],_,a,b,_,_=>absurd b (by simp)
 | x :: l,h,a,b,h1,h2=>by
  have c:∀ {l:List α},(∀ x∈l,p x=true->q x=true)->l.countP p<=l.countP q:=fun {l} h=>List.countP_mono_left fun x hx=>h x hx
  rw [List.countP_cons,List.countP_cons]
  rcases List.mem_cons.1 b with rfl | b
  ·have:=c (l:=l) fun y hy=>h y (List.mem_cons_of_mem _ hy)
   rw [h1,h2]
   simp
   omega
  ·have f:=countP_lt (l:=l) (fun y hy=>h y (List.mem_cons_of_mem _ hy)) b h1 h2
   have e:=h x (List.mem_cons_self ..)
   cases d:p x with
   | false=>simp;omega
   | true=>rw [e d];simp;omega
theorem lrnd_many (hs:Surf N T):∀ r,r<=3 * T.length->r<=many T C (lrnd T C r)
 | 0,_=>Nat.zero_le _
 | r+1,hr=>by
  have G:=lrnd_many hs r (by omega)
  have l:=lrnd_lab (C:=C) hs r
  obtain ⟨H,A⟩:=rndK_ok hs l (3 * T.length) (Nat.le_refl _)
  have e:∀ c∈List.range (3 * T.length),@decide (Head T C (lrnd T C r c)) (Classical.propDecidable _)=true->@decide (Head T C (lrnd T C (r+1) c)) (Classical.propDecidable _)=true:=fun c b h=>by
   have b:=List.mem_range.1 b
   have h:=@of_decide_eq_true _ (Classical.propDecidable _) h
   refine @decide_eq_true _ (Classical.propDecidable _) ?_
   show Head T C (rndK T C (lrnd T C r) (3 * T.length) c)
   rw [A c b h]
   exact h
  by_cases f:∀ c,c<3 * T.length->Head T C (lrnd T C r c)
  ·have:many T C (lrnd T C (r+1))=3 * T.length:=by
    unfold many
    rw [List.countP_eq_length.2 (fun c b=>e c b (@decide_eq_true _ (Classical.propDecidable _) (f c (List.mem_range.1 b)))),List.length_range]
   omega
  ·obtain ⟨v,B,m⟩:∃ c,c<3 * T.length/\¬ Head T C (lrnd T C r c):=Classical.byContradiction fun g=>f fun c b=>Classical.byContradiction fun h=>g ⟨c,b,h⟩
   obtain ⟨h,D,t,o⟩:=head_of T C v
   have p:h<3 * T.length:=by omega
   have n:Head T C (lrnd T C r h):=by
    obtain ⟨u,F⟩:=l h p
    have:¬ lrnd T C r h<h:=fun hlt=>o _ hlt u
    rw [show lrnd T C r h=h by omega]
    exact o
   have q:¬ Shut T C (fun x=>Head T C (lrnd T C r x)):=fun hS=>m (t _ hS n)
   obtain ⟨c,d,b,i,g,k⟩:∃ c d,c<3 * T.length/\aft T c=some d/\¬ ctB T C d/\¬ (Head T C (lrnd T C r c)↔Head T C (lrnd T C r d)) :=
    Classical.byContradiction fun hno=>q fun c d b i g=>Classical.byContradiction fun h9=>hno ⟨c,d,b,i,g,h9⟩
   have z:=(hs.aft_iff.1 i).1
   have s:Head T C (lrnd T C r c)\/Head T C (lrnd T C r d):=Classical.byContradiction fun h9=>k ⟨fun h8=>absurd (.inl h8) h9,fun h8=>absurd (.inr h8) h9⟩
   obtain ⟨w,y⟩:=rndK_beside hs l b i g s (3 * T.length) b (Nat.le_refl _)
   have E:many T C (lrnd T C r)<many T C (lrnd T C (r+1)):=by
    unfold many
    by_cases j:Head T C (lrnd T C r c)
    ·refine countP_lt e (a:=d) (List.mem_range.2 z) (@decide_eq_false _ (Classical.propDecidable _) fun h9=>k ⟨fun _=>h9,fun _=>j⟩) (@decide_eq_true _ (Classical.propDecidable _) y)
    ·exact countP_lt e (a:=c) (List.mem_range.2 b) (@decide_eq_false _ (Classical.propDecidable _) j) (@decide_eq_true _ (Classical.propDecidable _) w)
   omega
theorem lrnd_head (hs:Surf N T) {c:Nat} (hc:c<3 * T.length):Head T C (lrnd T C (3 * T.length) c)/\Sect T C (lrnd T C (3 * T.length) c) c:=by
 have b:=lrnd_many (C:=C) hs (3 * T.length) (Nat.le_refl _)
 refine ⟨?_,(lrnd_lab hs _ c hc).1⟩
 have d:(List.range (3 * T.length)).countP (fun c=>@decide (Head T C (lrnd T C (3 * T.length) c)) (Classical.propDecidable _))=(List.range (3 * T.length)).length:=by
  have a:=List.countP_le_length (p:=fun c=>@decide (Head T C (lrnd T C (3 * T.length) c)) (Classical.propDecidable _)) (l:=List.range (3 * T.length))
  rw [List.length_range] at a ⊢
  exact Nat.le_antisymm a b
 exact @of_decide_eq_true _ (Classical.propDecidable _) (List.countP_eq_length.1 d c (List.mem_range.2 hc))
end
end Go.Mesh
