/- Za6: a cut along an inner vertex's link makes one shell. -/
import Derived.Test.YtpbdcppaiafbgaaGreatOM
namespace Go.Mesh
section
variable {N : Int} {T X : List T3} {O : List Int} {v : Int}
theorem nm_one{L:List (Int×Int)}(hn:(L.map nm).Nodup){e f:Int×Int}(he:e∈L)(hf:f∈L)(h:nm e=nm f):e=f:=by
 obtain⟨i,hi,rfl⟩:=zE he;obtain⟨j,b,rfl⟩:=zE hf;have a:i=j:=(List.getElem_inj (h₀:=by rw[zL];exact hi) (h₁:=by rw[zL];exact b) hn).1 (by rw[List.getElem_map,List.getElem_map];exact h);subst a;rfl
theorem Star.across(s:Star N T v X O){c d:Nat}(hc:c<3*T.length)(hcv:vt T c=v)(ho:opp T c=some d):¬AtV T v (d/3):=by
 rintro⟨e,m,r,b⟩;have a:=s.surf;obtain⟨t,g,i⟩:=a.opp_iff.1 ho;have p:vt T (nx c)≠v:=fun h=>a.loop c hc (hcv.trans h.symm)
 have q:vt T (pv c)≠v:=fun h=>a.loop (pv c) (Zaj hc) (by rw[Zcf,h,hcv])
 have k:e=d\/e=nx d\/e=pv d:=by unfold nx pv;omega
 rcases k with rfl|rfl|rfl
 ·have l:3<=(Zab T N v).length:=by
   rw[Zdy a s.rng,if_pos s.inner];exact Zh8 a s.rng s.inner
  have n:=Zpr a s.rng s.inner hc hcv;have o:=Zpr a s.rng s.inner m b;have f:eg T e=((eg T c).2,(eg T c).1):=by unfold eg;rw[g,i]
  have j:=nm_one (Zqy (Zcs a s.rng) l) n o (by rw[f,Ze0]);rw[f]at j;exact a.loop3 hc (congrArg Prod.fst j)
 ·exact q (g.symm.trans b)
 ·exact p (i.symm.trans b)
