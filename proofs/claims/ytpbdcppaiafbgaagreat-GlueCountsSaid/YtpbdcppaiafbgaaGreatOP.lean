/- Plain: a cut along an inner vertex's link makes one shell more, of the vertex's triangles; no program in sight. -/
import Derived.Test.YtpbdcppaiafbgaaGreatHK
import Derived.Test.YtpbdcppaiafbgaaGreatOM
namespace Go.Mesh
section
variable {N : Int} {T X : List T3} {O : List Int} {v : Int}
theorem lp_parts (hs:Surf N T) {l:List Int} (h:lpN N T l=0):Parts T ((lpE l).map nm) :=
 parts_of hs (clean_good (loop_clean h)) fun e he=>by simpa using List.any_eq_false.1 (loop_idle h) e he
theorem loop_star (hs:Surf N T) (hv:0<=v/\v<N) (hi:innerAt T N v=true) (h:lpN N T (linkAt T N v)=0) (h4:(newO N T ((lpE (linkAt T N v)).map nm)).length<=4096):Star N T v (newX N T ((lpE (linkAt T N v)).map nm)) (newO N T ((lpE (linkAt T N v)).map nm)) :=
 ⟨hs,hv,hi,numb hs,lp_parts hs h,(numb hs).surf hs (lp_parts hs h) h4⟩
theorem nm_one {L:List (Int × Int)} (hn:(L.map nm).Nodup) {e f:Int × Int} (he:e∈L) (hf:f∈L) (h:nm e=nm f):e=f:=by
 obtain ⟨i,hi,rfl⟩:=List.getElem_of_mem he;obtain ⟨j,b,rfl⟩:=List.getElem_of_mem hf;have a:i=j:=(List.getElem_inj (h₀:=by rw [List.length_map];exact hi) (h₁:=by rw [List.length_map];exact b) hn).1 (by rw [List.getElem_map,List.getElem_map];exact h);subst a;rfl
theorem Star.across (s:Star N T v X O) {c d:Nat} (hc:c<3 * T.length) (hcv:vt T c=v) (ho:opp T c=some d):¬ AtV T v (d / 3):=by
 rintro ⟨e,m,r,b⟩;have a:=s.surf;obtain ⟨t,g,i⟩:=a.opp_iff.1 ho;have p:vt T (nx c)≠v:=fun h=>a.loop c hc (hcv.trans h.symm)
 have q:vt T (pv c)≠v:=fun h=>a.loop (pv c) (pv_lt hc) (by rw [nx_pv,h,hcv])
 have k:e=d\/e=nx d\/e=pv d:=by unfold nx pv;omega
 rcases k with rfl | rfl | rfl
 ·have l:3<=(linkAt T N v).length:=by
   rw [link_len a s.rng,if_pos s.inner];exact inner_three a s.rng s.inner
  have n:=star_edge a s.rng s.inner hc hcv;have o:=star_edge a s.rng s.inner m b;have f:eg T e=((eg T c).2,(eg T c).1):=by unfold eg;rw [g,i]
  have j:=nm_one (loopE_once (link_nodup a s.rng) l) n o (by rw [f,nm_swap]);rw [f] at j;exact a.loop3 hc (congrArg Prod.fst j)
 ·exact q (g.symm.trans b)
 ·exact p (i.symm.trans b)
theorem Star.corner (s:Star N T v X O):∃ c,c<3 * T.length/\vt T c=v:=by
 obtain ⟨a,r⟩:=s.surf.ring_in s.rng;exact ⟨_,(r.mem _).1 (List.getElem_mem a)⟩
theorem Numb.con {C:List (Int × Int)} (n:Numb N T C X O) (hs:Surf N T) (hp:Parts T C) (hX:Surf (O.length:Nat) X) {a b:Nat} (h:Con X a b):Con T a b:=by
 refine h.closed hX (fun y=>Con T a y) (fun x y hx hxy=>?_) (Con.refl a);obtain ⟨c,d,rfl,rfl,f⟩:=of_besd hxy;have e:c<3 * T.length:=by have:=hX.opp_lt f;have:=n.len;omega
 exact hx.step hs (besd_of hs ((n.opp_iff hs hp e).1 f).1)
theorem Numb.shells {C:List (Int × Int)} (n:Numb N T C X O) (hs:Surf N T) (hp:Parts T C) (hX:Surf (O.length:Nat) X) {ot ox:List Int} {ct cx:Nat} (h1:Pt T ot ct T.length) (h2:Pt X ox cx T.length) {L:List Nat} (hL:L.Nodup)
  (hl:∀ x∈L,x<cx) (hno:∀ x∈L,∀ i,i<ct->(ox.getD (sd T i) 0).toNat≠x):ct+L.length<=cx:=by
 have o:=n.len;have p:Pt X ox cx X.length:=by rw [o];exact h2
 have l:∀ x,x<T.length->(ox.getD x 0).toNat<cx/\Con X (sd X (ox.getD x 0).toNat) x:=fun x hx=>by
  obtain ⟨i,hi,u,t⟩:=p.all_in (x:=x) (by omega);have e:(ox.getD x 0).toNat=i:=by rw [List.getD_eq_getElem?_getD,u];simp
  rw [e];exact ⟨hi,t⟩
 have f:∀ i,i<ct->sd T i<T.length:=fun i hi=>hs.sd_lt (by have:=h1.np;omega)
 have r:((List.range ct).map fun i=>(ox.getD (sd T i) 0).toNat).Nodup:=nodup_map_inj List.nodup_range fun i hi j g k=>by
  have hi:=List.mem_range.1 hi;have g:=List.mem_range.1 g;have s:=(l _ (f i hi)).2;have v:=(l _ (f j g)).2;have k:(ox.getD (sd T i) 0).toNat=(ox.getD (sd T j) 0).toNat:=k;rw [k] at s;have q:=n.con hs hp hX ((s.symm hX).trans hX v);rcases Nat.lt_trichotomy i j with c | c | c
  ·exact absurd q (h1.apart i j c g)
  ·exact c
  ·exact absurd (q.symm hs) (h1.apart j i c hi)
 have h:(((List.range ct).map fun i=>(ox.getD (sd T i) 0).toNat)++L).Nodup:=by
  rw [List.nodup_append];refine ⟨r,hL,fun a ha b hb d=>?_⟩;obtain ⟨i,hi,rfl⟩:=List.mem_map.1 ha;exact hno b hb i (List.mem_range.1 hi) d
 have:=nodup_len (m:=List.range cx) h fun x hx=>by
  rw [List.mem_range];rcases List.mem_append.1 hx with d | d
  ·obtain ⟨i,hi,rfl⟩:=List.mem_map.1 d;exact (l _ (f i (List.mem_range.1 hi))).1
  ·exact hl x d
 rw [List.length_append,List.length_map,List.length_range,List.length_range] at this;exact this
theorem Star.more (s:Star N T v X O) {ot ox:List Int} {ct cx:Nat} (h1:Pt T ot ct T.length) (h2:Pt X ox cx T.length) (hop:∀ c,c<3 * T.length->vt T c=v->∃ d,opp T c=some d):ct<cx:=by
 have t:=s.numb.len;have a:=s.surf;have n:Pt X ox cx X.length:=by rw [t];exact h2
 obtain ⟨c,r,g⟩:=s.corner;obtain ⟨o,w⟩:=hop c r g;have P:=(a.opp_iff.1 w).1;have J:AtV T v (c / 3):=⟨c,r,rfl,g⟩;have K:=s.across r g w;have A:Con T (c / 3) (o / 3):=(Con.refl _).step a (besd_of a w);have u:¬ Con X (c / 3) (o / 3):=fun h=>K ((s.shell J).2 h)
 have p:c / 3<T.length:=by omega
 have B:o / 3<T.length:=by omega
 obtain ⟨b,D,U,z⟩:=h1.all_in p;have Q:sd T b<T.length:=a.sd_lt (by have:=h1.np;omega);obtain ⟨y,S,E,F⟩:∃ y,y<T.length/\Con T (sd T b) y/\¬ Con X (sd T b) y:=by
  by_cases e:Con X (sd T b) (c / 3)
  ·exact ⟨o / 3,B,z.trans a A,fun l=>u ((e.symm s.cut).trans s.cut l)⟩
  ·exact ⟨c / 3,p,z,e⟩
 obtain ⟨j,M,V,G⟩:=n.all_in (x:=y) (by omega);have q:=s.numb.shells a s.parts s.cut h1 h2 (L:=[j]) (by simp) (fun x hx=>by rw [List.mem_singleton.1 hx];exact M) fun x hx i hi e=>by
  rw [List.mem_singleton.1 hx] at e;have R:sd T i<T.length:=a.sd_lt (by have:=h1.np;omega);obtain ⟨m,W,I,H⟩:=n.all_in (x:=sd T i) (by omega);rw [List.getD_eq_getElem?_getD,I] at e;have:m=j:=by simpa using e
  subst this;have k:Con X (sd T i) y:=(H.symm s.cut).trans s.cut G;have C:=s.numb.con a s.parts s.cut k;have l:=E.trans a (C.symm a);rcases Nat.lt_trichotomy i b with f | f | f
  ·exact h1.apart i b f D (l.symm a)
  ·rw [f] at k;exact F k
  ·exact h1.apart b i f hi l
 have q:ct+1<=cx:=q;omega
theorem lp_opp (hs:Surf N T) (hv:0<=v/\v<N) (hi:innerAt T N v=true) (h:lpN N T (linkAt T N v)=0) {c:Nat} (hc:c<3 * T.length) (hcv:vt T c=v):∃ d,opp T c=some d:=by
 obtain ⟨i,a,e⟩:=mem_loopE.1 (star_edge hs hv hi hc hcv);obtain ⟨_,_,_,_,b⟩:=loop_open h;obtain ⟨_,d,f⟩:=b i a;refine ⟨d,?_⟩;show facing T ((eg T c).2,(eg T c).1)=some d;rw [e];exact f
end
end Go.Mesh
