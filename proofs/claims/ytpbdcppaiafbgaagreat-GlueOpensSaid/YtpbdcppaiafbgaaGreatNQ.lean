/- Plain: the numbers of sectors, one behind the other; no program in sight. -/
import Derived.Test.YtpbdcppaiafbgaaGreatNP
namespace Go.Mesh
section
variable {N : Int} {T : List T3} {C : List (Int × Int)}
theorem filter_index (p:Nat->Bool):∀ (n c:Nat),c<n->p c=true->((List.range n).filter p)[(List.range c).countP p]? = some c
 | 0,c,h,_=>absurd h (Nat.not_lt_zero c)
 | n+1,c,h,hp=>by
  rw [List.range_succ,List.filter_append]
  by_cases b:c=n
  ·subst b
   rw [List.getElem?_append_right (by rw [List.countP_eq_length_filter];exact Nat.le_refl _),List.countP_eq_length_filter,Nat.sub_self,List.filter_cons,if_pos hp];rfl
  ·have a:=filter_index p n c (by omega) hp
   rw [List.getElem?_append_left (List.getElem?_eq_some_iff.1 a).1]
   exact a
noncomputable def xcn (T : List T3) (C : List (Int × Int)) (v j : Nat) : Nat := (List.range j).countP fun c => @decide (vt T c = (v : Int) /\ Extra T C c) (Classical.propDecidable _)
theorem xcn_succ (v j:Nat):(Extra T C j/\vt T j=(v:Int)->xcn T C v (j+1)=xcn T C v j+1)/\(¬ (Extra T C j/\vt T j=(v:Int))->xcn T C v (j+1)=xcn T C v j):=by
 unfold xcn
 rw [List.range_succ,List.countP_append,List.countP_cons,List.countP_nil]
 constructor
 ·intro h
  rw [if_pos (@decide_eq_true _ (Classical.propDecidable _) ⟨h.2,h.1⟩)]
 ·intro h
  rw [if_neg (fun h9=>h (by have:=@of_decide_eq_true _ (Classical.propDecidable _) h9;exact ⟨this.2,this.1⟩))];rfl
theorem exV_len (v:Nat):(exV T C (v:Int)).length=xcn T C v (3 * T.length):=by
 unfold exV xcn
 rw [List.countP_eq_length_filter]
theorem exH_next (v:Nat):(exH T C (v+1)).length=(exH T C v).length+xcn T C v (3 * T.length):=by rw [exH_succ,List.length_append,exV_len]
theorem ex_index {v c:Nat} (hc:c<3 * T.length) (hv:vt T c=(v:Int)) (he:Extra T C c):∀ k,v<k->(exH T C k)[(exH T C v).length+xcn T C v c]? = some c
 | 0,h=>absurd h (Nat.not_lt_zero v)
 | k+1,h=>by
  rw [exH_succ]
  by_cases b:v=k
  ·subst b
   rw [List.getElem?_append_right (by omega),show (exH T C v).length+xcn T C v c - (exH T C v).length=xcn T C v c by omega]
   unfold exV xcn
   exact filter_index _ _ c hc (@decide_eq_true _ (Classical.propDecidable _) ⟨hv,he⟩)
  ·have a:=ex_index hc hv he k (by omega)
   rw [List.getElem?_append_left (List.getElem?_eq_some_iff.1 a).1]
   exact a
theorem lab_own (hs:Surf N T) {c:Nat} (hc:c<3 * T.length):lrnd T C (3 * T.length) c=c↔Head T C c:=by
 obtain ⟨a,b⟩:=lrnd_head (C:=C) hs hc
 constructor
 ·intro e;rw [e] at a;exact a
 ·intro h;exact head_one a h b
theorem first_iff (hs:Surf N T) {c v:Nat} (_:c<3 * T.length) (_:vt T c=(v:Int)):(∀ e,e<c->¬ (Head T C e/\vt T e=(v:Int)))↔∀ e,e<c->vt T e≠(v:Int):=by
 constructor
 ·intro h e b f
  obtain ⟨d,i,a,g⟩:=head_of T C e
  exact h d (by omega) ⟨g,(a.vt hs).symm.trans f⟩
 ·intro h e b a
  exact h e b a.2
theorem num_first (hs:Surf N T) {c v d:Nat} (_:c<3 * T.length) (hv:vt T c=(v:Int)) (hf:∀ e,e<c->vt T e≠(v:Int)) (h:Sect T C c d):newN N T C d=(v:Int):=by
 rw [newN_first hs (d:=c) (fun e he=>by rw [hv];exact hf e he) h,h.vt hs,hv]
theorem num_extra (hs:Surf N T) {c v d:Nat} (hc:c<3 * T.length) (hv:vt T c=(v:Int)) (hh:Head T C c) (hf:¬ ∀ e,e<c->vt T e≠(v:Int)) (h:Sect T C c d):Extra T C c/\newN N T C d=N+(((exH T C v).length+xcn T C v c:Nat):Int):=by
 have a:Extra T C c:=⟨hh,Classical.byContradiction fun hn=>hf fun e a hev=>hn ⟨e,a,hev.trans hv.symm⟩⟩
 have b:=hs.rng c hc
 rw [hv] at b
 exact ⟨a,newN_extra (ex_index hc hv a N.toNat (by omega)) h⟩
theorem newN_nat (hs:Surf N T) {c:Nat} (hc:c<3 * T.length):0<=newN N T C c:=by
 have b:=hs.n0
 have d:=hs.rng c hc
 rcases newN_cases (N:=N) (T:=T) (C:=C) c with ⟨i,e,_,_,a⟩ | ⟨_,a⟩ <;> rw [a] <;> omega
theorem xcn_le (v j:Nat):xcn T C v j<=j:=by
 unfold xcn
 exact Nat.le_trans List.countP_le_length (by rw [List.length_range];exact Nat.le_refl _)
theorem if_both {P Q:Prop} [Decidable P] [Decidable Q] {a b:Nat} (h:P↔Q):(if P then a else b)=if Q then a else b:=by
 by_cases c:P
 ·rw [if_pos c,if_pos (h.1 c)]
 ·rw [if_neg c,if_neg fun q=>c (h.2 q)]
def dn (T:List T3) (nn G:Nat->Nat) (v c d:Nat) (e:Nat):Nat:=if vt T e<(v:Int)\/(vt T e=(v:Int)/\(G e<c\/(G e=c/\e<d))) then nn e else 0
theorem dn_zero (hs:Surf N T) {nn G:Nat->Nat} {e:Nat} (he:e<3 * T.length):dn T nn G 0 0 0 e=0:=if_neg fun h=>by
 have:=hs.rng e he
 omega
theorem dn_skip {nn G:Nat->Nat} {v c:Nat} {e:Nat} (h:vt T e=(v:Int)->G e≠c):dn T nn G v (c+1) 0 e=dn T nn G v c 0 e:=by
 unfold dn
 refine if_both ?_
 constructor
 ·rintro (a | ⟨a,b⟩)
  ·exact .inl a
  ·have:=h a
   exact .inr ⟨a,by omega⟩
 ·rintro (a | ⟨a,b⟩)
  ·exact .inl a
  ·exact .inr ⟨a,by omega⟩
theorem dn_full {m:Nat} {nn G:Nat->Nat} {v c:Nat} {e:Nat} (he:e<m):dn T nn G v c m e=dn T nn G v (c+1) 0 e:=by
 unfold dn
 refine if_both ?_
 constructor
 ·rintro (a | ⟨a,b⟩)
  ·exact .inl a
  ·exact .inr ⟨a,by omega⟩
 ·rintro (a | ⟨a,b⟩)
  ·exact .inl a
  ·exact .inr ⟨a,by omega⟩
theorem dn_set {nn G:Nat->Nat} {v c d u:Nat} (hv:vt T d=(v:Int)) (hg:G d=c) (hu:nn d=u) (e:Nat):(if e=d then u else dn T nn G v c d e)=dn T nn G v c (d+1) e:=by
 by_cases h:e=d
 ·subst h
  rw [if_pos rfl]
  unfold dn
  rw [if_pos (.inr ⟨hv,.inr ⟨hg,by omega⟩⟩),hu]
 ·rw [if_neg h]
  unfold dn
  refine if_both ?_
  constructor
  ·rintro (a | ⟨a,b⟩)
   ·exact .inl a
   ·exact .inr ⟨a,by omega⟩
  ·rintro (a | ⟨a,b⟩)
   ·exact .inl a
   ·exact .inr ⟨a,by omega⟩
theorem dn_keep {nn G:Nat->Nat} {v c d:Nat} (h:¬ (G d=c/\vt T d=(v:Int))) (e:Nat):dn T nn G v c d e=dn T nn G v c (d+1) e:=by
 unfold dn
 refine if_both ?_
 constructor
 ·rintro (a | ⟨a,b⟩)
  ·exact .inl a
  ·exact .inr ⟨a,by omega⟩
 ·rintro (a | ⟨a,b⟩)
  ·exact .inl a
  ·refine .inr ⟨a,?_⟩
   by_cases f:e=d
   ·subst f
    rcases b with b | b
    ·exact .inl b
    ·exact absurd ⟨b.1,a⟩ h
   ·omega
theorem dn_next {m:Nat} {nn G:Nat->Nat} {v:Nat} {e:Nat} (hg:G e<m):dn T nn G v m 0 e=dn T nn G (v+1) 0 0 e:=by
 unfold dn
 refine if_both ?_
 constructor
 ·rintro (a | ⟨a,b⟩) <;> exact .inl (by omega)
 ·rintro (a | ⟨a,b⟩)
  ·by_cases b:vt T e=(v:Int)
   ·exact .inr ⟨b,.inl hg⟩
   ·exact .inl (by omega)
  ·omega
theorem dn_end {n:Nat} {nn G:Nat->Nat} (hs:Surf (n:Int) T) {e:Nat} (he:e<3 * T.length):dn T nn G n 0 0 e=nn e:=if_pos (.inl (hs.rng e he).2)
theorem num_skip (hs:Surf N T) {c v:Nat} (hc:c<3 * T.length) (h:¬ (vt T c=(v:Int)/\lrnd T C (3 * T.length) c=c)):xcn T C v (c+1)=xcn T C v c/\(∀ e,e<3 * T.length->vt T e=(v:Int)->lrnd T C (3 * T.length) e≠c)/\∀ fb:Bool,(fb=true↔∀ e,e<c->¬ (Head T C e/\vt T e=(v:Int)))->(fb=true↔∀ e,e<c+1->¬ (Head T C e/\vt T e=(v:Int))):=by
 have b:¬ (Head T C c/\vt T c=(v:Int)):=fun h9=>h ⟨h9.2,(lab_own hs hc).2 h9.1⟩
 refine ⟨(xcn_succ v c).2 fun h9=>b ⟨h9.1.1,h9.2⟩,fun e he hev hg=>?_,fun fb hfb=>hfb.trans ⟨fun a e he=>?_,fun a e he=>a e (by omega)⟩⟩
 ·obtain ⟨a,d⟩:=lrnd_head (C:=C) hs he
  rw [hg] at a d
  exact b ⟨a,(d.vt hs).symm.trans hev⟩
 ·by_cases f:e=c
  ·subst f;exact b
  ·exact a e (by omega)
theorem num_head (hs:Surf N T) {c v:Nat} (hc:c<3 * T.length) (hv:vt T c=(v:Int)) (hg:lrnd T C (3 * T.length) c=c) {fb:Bool} (hfb:fb=true↔∀ e,e<c->¬ (Head T C e/\vt T e=(v:Int))) :
  (false=true↔∀ e,e<c+1->¬ (Head T C e/\vt T e=(v:Int)))/\(fb=true->xcn T C v (c+1)=xcn T C v c/\∀ d,d<3 * T.length->lrnd T C (3 * T.length) d=c->newN N T C d=(v:Int)) /\
  (fb=false->xcn T C v (c+1)=xcn T C v c+1/\∀ d,d<3 * T.length->lrnd T C (3 * T.length) d=c->newN N T C d=N+(((exH T C v).length+xcn T C v c:Nat):Int)):=by
 have f:=(lab_own hs hc).1 hg
 have b:∀ d,d<3 * T.length->lrnd T C (3 * T.length) d=c->Sect T C c d:=fun d hd h=>by
  have:=(lrnd_head (C:=C) hs hd).2
  rw [h] at this
  exact this
 refine ⟨⟨fun h=>(Bool.false_ne_true h).elim,fun h=>absurd ⟨f,hv⟩ (h c (by omega))⟩,fun h=>?_,fun h=>?_⟩
 ·have a:=(first_iff (C:=C) hs hc hv).1 (hfb.1 h)
  refine ⟨(xcn_succ v c).2 fun h9=>?_,fun d hd h9=>num_first hs hc hv a (b d hd h9)⟩
  obtain ⟨_,e,i,g⟩:=h9.1
  exact a e i (g.trans hv)
 ·have a:¬ ∀ e,e<c->vt T e≠(v:Int):=fun h9=>by
   have:=hfb.2 ((first_iff (C:=C) hs hc hv).2 h9)
   rw [h] at this
   exact Bool.false_ne_true this
  exact ⟨(xcn_succ v c).1 ⟨(num_extra hs hc hv f a (Sect.refl c)).1,hv⟩,fun d hd h9=>(num_extra hs hc hv f a (b d hd h9)).2⟩
end
end Go.Mesh
