/- Plain: the edges of a loop, as edges to cut along; no program in sight. Plain: a vertex's star, cut along its link; no program in sight. What cut.Along tells, as plain facts; the tetrahedron cut along two edges. Plain: a cut's pairs at the border; the same cut told otherwise; no program in sight. Plain: why a cut along a link, along one edge, is refused; no program in sight. -/
import Derived.Test.YtpbdcppaiafbgaaGreatHP
import Derived.Test.YtpbdcppaiafbgaaGreatDX
import Derived.Test.YtpbdcppaiafbgaaGreatIA
import Derived.Test.YtpbdcppaiafbgaaGreatSG
import Derived.Test.YtpbdcppaiafbgaaGreatTS
import Derived.Test.YtpbdcppaiafbgaaGreatBM
namespace Go.Mesh
section
variable {N : Int} {T : List T3} {C : List (Int × Int)}
end
section
variable {N M : Int} {T X : List T3} {O : List Int} {v : Int}
end
def Clean (T:List T3) (l:List (Int × Int)):Prop:=∀ i (h:i<l.length),addC T (l.take i) l[i]=0
theorem addC_zero {T:List T3} {L:List (Int × Int)} {e:Int × Int}:addC T L e=0↔¬ oi (facing T e)<0/\¬ oi (facing T (e.2,e.1))<0/\nm e ∉ L.map nm:=by
 unfold addC
 by_cases a:oi (facing T e)<0 <;> by_cases b:oi (facing T (e.2,e.1))<0 <;> by_cases c:nm e∈L.map nm <;> simp [a,b,c]
theorem clean_good {T:List T3} {l:List (Int × Int)} (h:Clean T l):Good T l where
 two:=fun e he=>by
  obtain ⟨i,a,rfl⟩:=List.getElem_of_mem he
  obtain ⟨b,c,_⟩:=addC_zero.1 (h i a)
  exact ⟨oi_none b,oi_none c⟩
 once:=by
  refine List.pairwise_iff_getElem.2 fun i j a hj hij=>?_
  rw [List.length_map] at a hj
  obtain ⟨_,_,d⟩:=addC_zero.1 (h j hj)
  intro e
  rw [List.getElem_map,List.getElem_map] at e
  refine d (List.mem_map.2 ⟨l[i],?_,e⟩)
  exact List.mem_take_iff_getElem.2 ⟨i,by omega,rfl⟩
def AlongC (N:Int) (T:List T3) (l:List (Int × Int)) (c:Int):Prop :=
 (¬ Surf N T/\c=11)\/(Surf N T/\∃ k,∃ h:k<l.length,(∀ i (h':i<l.length),i<k->addC T (l.take i) l[i]=0)/\addC T (l.take k) l[k]=c/\c≠0) \/
  (Surf N T/\Clean T l/\((l.any (idleE N T l)=true/\c=14)\/(l.any (idleE N T l)=false/\4096<(newO N T (l.map nm)).length/\c=7)\/(l.any (idleE N T l)=false/\(newO N T (l.map nm)).length<=4096/\c=0)))
noncomputable def pairsL (N : Int) (T : List T3) (l : List (Int × Int)) (Es : List (Int × Int)) : List P4 := (Es.filter fun e => decide (e ∈ l.map nm)).map (pairE T (newX N T (l.map nm)))
theorem good_cut {T:List T3} {l:List (Int × Int)} (g:Good T l) {e:Int × Int} (he:e∈l.map nm):(∃ c,facing T e=some c)/\∃ d,facing T (e.2,e.1)=some d:=by
 obtain ⟨j,k,rfl⟩:=List.mem_map.1 he
 obtain ⟨f,i⟩:=g.two j k
 obtain ⟨a,b⟩:=j
 unfold nm
 simp only [] at f i ⊢
 rcases Int.le_total a b with h | h
 ·rw [Int.min_eq_left h,Int.max_eq_right h];exact ⟨f,i⟩
 ·rw [Int.min_eq_right h,Int.max_eq_left h];exact ⟨i,f⟩
theorem pairs_step {N:Int} {T:List T3} {l Es:List (Int × Int)} {k:Nat} (hk:k<Es.length):pairsL N T l (Es.take (k+1))=if Es[k]∈l.map nm then pairsL N T l (Es.take k)++[pairE T (newX N T (l.map nm)) Es[k]] else pairsL N T l (Es.take k):=by
 unfold pairsL
 rw [List.take_succ_eq_append_getElem hk,List.filter_append,List.map_append]
 by_cases h:Es[k]∈l.map nm
 ·rw [if_pos h,List.filter_cons_of_pos (by simpa using h)];rfl
 ·rw [if_neg h,List.filter_cons_of_neg (by simpa using h)];simp
theorem edges_few {T:List T3} {Es:List (Int × Int)} (h:EdgesIs T Es):Es.length<=3 * T.length:=by
 have g:Es.Nodup:=h.1.imp fun {a b} hab e=>by subst e;unfold ltE at hab;omega
 have:=nodup_len g (m:=(List.range (3 * T.length)).map (ek T)) fun e he=>by
  obtain ⟨c,d,f⟩:=(h.2 e).1 he
  exact List.mem_map.2 ⟨c,List.mem_range.2 d,f.symm⟩
 rwa [List.length_map,List.length_range] at this
section
variable {N : Int} {T : List T3} {l Es : List (Int × Int)}
theorem nm_nm (e:Int × Int):nm (nm e)=nm e:=by
 unfold nm
 exact Prod.ext (by simp only [];omega) (by simp only [];omega)
theorem ek_eg (T:List T3) (c:Nat):ek T (nx c)=nm (eg T c):=by
 unfold ek eg nm
 rw [nx_nx]
theorem AlongC.zero (h:AlongC N T l 0):Surf N T/\Clean T l/\l.any (idleE N T l)=false/\(newO N T (l.map nm)).length<=4096:=by
 rcases h with ⟨_,h⟩ | ⟨_,_,_,_,_,h⟩ | ⟨a,b,⟨_,h⟩ | ⟨_,_,h⟩ | ⟨c,d,_⟩⟩
 ·omega
 ·exact absurd rfl h
 ·omega
 ·omega
 ·exact ⟨a,b,c,d⟩
theorem AlongC.is {c:Int} (h:AlongC N T l c) (hs:Surf N T) (hc:Clean T l) (hi:l.any (idleE N T l)=false) (hf:(newO N T (l.map nm)).length<=4096):c=0:=by
 rcases h with ⟨h,_⟩ | ⟨_,k,d,_,a,b⟩ | ⟨_,_,⟨h,_⟩ | ⟨_,h,_⟩ | ⟨_,_,h⟩⟩
 ·exact absurd hs h
 ·rw [hc k d] at a;exact absurd a.symm b
 ·rw [hi] at h;cases h
 ·omega
 ·exact h
structure CutOk (N : Int) (T : List T3) (l Es : List (Int × Int)) : Prop where
 surf:Surf N T
 clean:Clean T l
 idle:l.any (idleE N T l)=false
 few:(newO N T (l.map nm)).length<=4096
 edges:EdgesIs T Es
theorem CutOk.good (h:CutOk N T l Es):Good T l:=clean_good h.clean
theorem CutOk.parts (h:CutOk N T l Es):Parts T (l.map nm):=parts_of h.surf h.good fun e he=>by simpa using List.any_eq_false.1 h.idle e he
theorem CutOk.numb (h:CutOk N T l Es):Numb N T (l.map nm) (newX N T (l.map nm)) (newO N T (l.map nm)):=Go.Mesh.numb h.surf
theorem CutOk.cut (h:CutOk N T l Es):Surf ((newO N T (l.map nm)).length:Nat) (newX N T (l.map nm)):=h.numb.surf h.surf h.parts h.few
def toldE (l Es:List (Int × Int)):List (Int × Int):=Es.filter fun e=>decide (e∈l.map nm)
theorem mem_toldE {e:Int × Int}:e∈toldE l Es↔e∈Es/\e∈l.map nm:=by unfold toldE;rw [List.mem_filter,decide_eq_true_eq]
theorem CutOk.mem (h:CutOk N T l Es) {e:Int × Int} (he:e∈l.map nm):e∈Es:=by
 obtain ⟨c,d⟩:=(good_cut h.good he).1
 obtain ⟨a,b⟩:=facing_some d
 obtain ⟨f,_,rfl⟩:=List.mem_map.1 he
 exact (h.edges.2 _).2 ⟨nx c,nx_lt a,by rw [ek_eg,b,nm_nm]⟩
theorem told_nm {e:Int × Int} (he:e∈toldE l Es):nm e=e:=by
 obtain ⟨a,_,rfl⟩:=List.mem_map.1 (mem_toldE.1 he).2
 exact nm_nm a
theorem told_map (l Es:List (Int × Int)):(toldE l Es).map nm=toldE l Es:=by
 conv=>rhs;rw [<- List.map_id (toldE l Es)]
 exact List.map_congr_left fun e he=>told_nm he
theorem CutOk.once (h:CutOk N T l Es):(toldE l Es).Nodup:=h.edges.nodup.sublist List.filter_sublist
theorem CutOk.told (h:CutOk N T l Es):Told T (l.map nm) (toldE l Es) where
 two:=fun e he=>good_cut h.good (mem_toldE.1 he).2
 once:=by rw [told_map];exact h.once
 all:=fun x=>by rw [told_map,mem_toldE];exact ⟨fun hx=>⟨h.mem hx,hx⟩,fun hx=>hx.2⟩
end
section
variable {N : Int} {T : List T3} {l Es : List (Int × Int)}
theorem CutOk.was (h:CutOk N T l Es) {c:Nat} (hc:c<3 * T.length):∃ k:Nat,vt (newX N T (l.map nm)) c=(k:Int)/\k<(newO N T (l.map nm)).length/\(newO N T (l.map nm))[k]? = some (vt T c):=by
 obtain ⟨k,b,a⟩:=h.numb.was c hc
 exact ⟨k,b,(List.getElem?_eq_some_iff.1 a).1,a⟩
theorem CutOk.ends (h:CutOk N T l Es):lowV (newX N T (l.map nm)) ((newO N T (l.map nm)).length:Nat)=lowV T N+2 * l.length:=lowV_cut h.numb h.surf h.parts h.good h.cut
theorem endsC_nm (L:List (Int × Int)) (v:Int):endsC L v=(L.map nm).countP fun e=>e.1 == v || e.2 == v:=by
 unfold endsC
 rw [List.countP_map]
 refine countP_same fun e _=>?_
 show (e.1 == v || e.2 == v)=(min e.1 e.2 == v || max e.1 e.2 == v)
 rcases Int.le_total e.1 e.2 with h | h
 ·rw [Int.min_eq_left h,Int.max_eq_right h]
 ·rw [Int.min_eq_right h,Int.max_eq_left h,Bool.or_comm]
theorem idle_nm {L M:List (Int × Int)} (hp:(M.map nm).Perm (L.map nm)) {e f:Int × Int} (h:nm e=nm f):idleE N T L e=idleE N T M f:=by
 have a:∀ v,endsC L v=endsC M v:=fun v=>by rw [endsC_nm,endsC_nm,hp.countP_eq]
 unfold idleE
 rcases nm_eq.1 (show nm (e.1,e.2)=nm (f.1,f.2) from h) with ⟨b,c⟩ | ⟨b,c⟩
 ·rw [b,c,a,a]
 ·rw [b,c,a,a,Bool.and_comm]
theorem CutOk.other (h:CutOk N T l Es) {m:List (Int × Int)} (hp:(m.map nm).Perm (l.map nm)):CutOk N T m Es:=by
 have q:∀ x,x∈m.map nm↔x∈l.map nm:=fun x=>hp.mem_iff
 refine ⟨h.surf,fun i hi=>addC_zero.2 ?_,?_,?_,h.edges⟩
 ·have s:=(q (nm m[i])).1 (List.mem_map_of_mem (List.getElem_mem hi))
  obtain ⟨⟨a,g⟩,b,k⟩:=good_cut h.good s
  have c:∀ {o:Option Nat} {a:Nat},o=some a->¬ oi o<0:=fun {o a} h=>by subst h;show ¬ ((a:Int)<0);omega
  have n:nm m[i] ∉ (m.take i).map nm:=fun d=>by
   have r:(m.map nm).Nodup:=hp.nodup_iff.2 h.good.once
   rw [List.map_take] at d
   obtain ⟨j,u,p⟩:=List.mem_take_iff_getElem.1 d
   have:j=i:=(List.getElem_inj (h₀:=by omega) (h₁:=by rw [List.length_map];exact hi) r).1 (by rw [p,List.getElem_map])
   omega
  unfold nm at g k
  simp only [] at g k
  rcases Int.le_total m[i].1 m[i].2 with d | d
  ·rw [Int.min_eq_left d,Int.max_eq_right d] at g k
   exact ⟨c g,c k,n⟩
  ·rw [Int.min_eq_right d,Int.max_eq_left d] at g k
   exact ⟨c k,c g,n⟩
 ·rw [List.any_eq_false]
  intro e p
  obtain ⟨f,t,r⟩:=List.mem_map.1 ((q (nm e)).1 (List.mem_map_of_mem p))
  have:=List.any_eq_false.1 h.idle f t
  rw [idle_nm hp r] at this
  exact this
 ·rw [newO_same q];exact h.few
end
section
variable {N : Int} {T : List T3} {l Es : List (Int × Int)}
theorem newO_few (hs:Surf N T) (C:List (Int × Int)) (h:N+3 * (T.length:Int)<=4096):(newO N T C).length<=4096:=by
 have a:=newO_len hs C
 have b:=exH_few (T:=T) (C:=C) N.toNat
 omega
end
end Go.Mesh
