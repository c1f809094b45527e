/- Plain: a cut along an inner vertex's link makes one shell more, of the vertex's triangles; no program in sight. -/
import Derived.Test.YtpbdcppaiafbgaaGreatHK
import Derived.Test.YtpbdcppaiafbgaaGreatOM
namespace Go.Mesh
section
variable {N : Int} {T X : List T3} {O : List Int} {v : Int}
theorem lp_parts (hs:Surf N T) {l:List Int} (h:lpN N T l=0):Parts T ((lpE l).map nm) :=
 parts_of hs (clean_good (loop_clean h)) fun e he=>by simpa using List.any_eq_false.1 (loop_idle h) e he
theorem loop_star (hs:Surf N T) (hv:0<=v/\v<N) (hi:innerAt T N v=true) (h:lpN N T (linkAt T N v)=0) (h4:(newO N T ((lpE (linkAt T N v)).map nm)).length<=4096):Star N T v (newX N T ((lpE (linkAt T N v)).map nm)) (newO N T ((lpE (linkAt T N v)).map nm)) :=
 ⟨hs,hv,hi,numb hs,lp_parts hs h,(numb hs).surf hs (lp_parts hs h) h4⟩
theorem nm_one {L:List (Int × Int)} (hn:(L.map nm).Nodup) {e f:Int × Int} (he:e∈L) (hf:f∈L) (h:nm e=nm f):e=f:=by
 obtain ⟨i,b,rfl⟩:=List.getElem_of_mem he;obtain ⟨j,c,rfl⟩:=List.getElem_of_mem hf;have a:i=j:=(List.getElem_inj (h₀:=by rw [List.length_map];exact b) (h₁:=by rw [List.length_map];exact c) hn).1 (by rw [List.getElem_map,List.getElem_map];exact h);subst a;rfl
theorem Star.across (s:Star N T v X O) {c d:Nat} (hc:c<3 * T.length) (hcv:vt T c=v) (ho:opp T c=some d):¬ AtV T v (d / 3):=by
 rintro ⟨e,m,r,b⟩;have a:=s.surf;obtain ⟨t,g,i⟩:=a.opp_iff.1 ho;have p:vt T (nx c)≠v:=fun h=>a.loop c hc (hcv.trans h.symm)
 have q:vt T (pv c)≠v:=fun h=>a.loop (pv c) (pv_lt hc) (by rw [nx_pv,h,hcv])
 have k:e=d\/e=nx d\/e=pv d:=by unfold nx pv;omega
 rcases k with rfl | rfl | rfl
 ·have l:3<=(linkAt T N v).length:=by
   rw [link_len a s.rng,if_pos s.inner];exact inner_three a s.rng s.inner
  have n:=star_edge a s.rng s.inner hc hcv;have o:=star_edge a s.rng s.inner m b;have f:eg T e=((eg T c).2,(eg T c).1):=by unfold eg;rw [g,i]
  have j:=nm_one (loopE_once (link_nodup a s.rng) l) n o (by rw [f,nm_swap]);rw [f] at j;exact a.loop3 hc (congrArg Prod.fst j)
 ·exact q (g.symm.trans b)
 ·exact p (i.symm.trans b)
theorem lp_opp (hs:Surf N T) (hv:0<=v/\v<N) (hi:innerAt T N v=true) (h:lpN N T (linkAt T N v)=0) {c:Nat} (hc:c<3 * T.length) (hcv:vt T c=v):∃ d,opp T c=some d:=by
 obtain ⟨i,a,e⟩:=mem_loopE.1 (star_edge hs hv hi hc hcv);obtain ⟨_,_,_,_,b⟩:=loop_open h;obtain ⟨_,d,f⟩:=b i a;refine ⟨d,?_⟩;show facing T ((eg T c).2,(eg T c).1)=some d;rw [e];exact f
end
end Go.Mesh
