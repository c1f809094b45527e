/- Plain: a cut along an inner vertex's link makes one shell more, of the vertex's triangles; no program in sight. -/
import Derived.Test.YtpbdcppaiafbgaaGreatHK
import Derived.Test.YtpbdcppaiafbgaaGreatOM
namespace Go.Mesh
section
variable {N : Int} {T X : List T3} {O : List Int} {v : Int}
theorem lp_parts (hs:Surf N T) {l:List Int} (h:lpN N T l=0):Parts T ((lpE l).map nm) :=
 parts_of hs (clean_good (loop_clean h)) fun e he=>by simpa using List.any_eq_false.1 (loop_idle h) e he
theorem loop_star (hs:Surf N T) (hv:0<=v/\v<N) (hi:innerAt T N v=true) (h:lpN N T (linkAt T N v)=0) (h4:(newO N T ((lpE (linkAt T N v)).map nm)).length<=4096):Star N T v (newX N T ((lpE (linkAt T N v)).map nm)) (newO N T ((lpE (linkAt T N v)).map nm)) :=
 ⟨hs,hv,hi,numb hs,lp_parts hs h,(numb hs).surf hs (lp_parts hs h) h4⟩
theorem nm_one {L:List (Int × Int)} (hn:(L.map nm).Nodup) {e f:Int × Int} (he:e∈L) (hf:f∈L) (h:nm e=nm f):e=f:=by
 obtain ⟨i,b,rfl⟩:=List.getElem_of_mem he
 obtain ⟨j,c,rfl⟩:=List.getElem_of_mem hf
 have a:i=j:=(List.getElem_inj (h₀:=by rw [List.length_map];exact b) (h₁:=by rw [List.length_map];exact c) hn).1 (by rw [List.getElem_map,List.getElem_map];exact h)
 subst a
 rfl
theorem Star.across (s:Star N T v X O) {c d:Nat} (hc:c<3 * T.length) (hcv:vt T c=v) (ho:opp T c=some d):¬ AtV T v (d / 3):=by
 rintro ⟨e,m,r,b⟩
 have a:=s.surf
 obtain ⟨t,g,i⟩:=a.opp_iff.1 ho
 have p:vt T (nx c)≠v:=fun h=>a.loop c hc (hcv.trans h.symm)
 have q:vt T (pv c)≠v:=fun h=>a.loop (pv c) (pv_lt hc) (by rw [nx_pv,h,hcv])
 have k:e=d\/e=nx d\/e=pv d:=by unfold nx pv;omega
 rcases k with rfl | rfl | rfl
 ·have l:3<=(linkAt T N v).length:=by
   rw [link_len a s.rng,if_pos s.inner]
   exact inner_three a s.rng s.inner
  have n:=star_edge a s.rng s.inner hc hcv
  have o:=star_edge a s.rng s.inner m b
  have f:eg T e=((eg T c).2,(eg T c).1):=by unfold eg;rw [g,i]
  have j:=nm_one (loopE_once (link_nodup a s.rng) l) n o (by rw [f,nm_swap])
  rw [f] at j
  exact a.loop3 hc (congrArg Prod.fst j)
 ·exact q (g.symm.trans b)
 ·exact p (i.symm.trans b)
theorem Star.corner (s:Star N T v X O):∃ c,c<3 * T.length/\vt T c=v:=by
 obtain ⟨a,r⟩:=s.surf.ring_in s.rng
 exact ⟨_,(r.mem _).1 (List.getElem_mem a)⟩
theorem Numb.con {C:List (Int × Int)} (n:Numb N T C X O) (hs:Surf N T) (hp:Parts T C) (hX:Surf (O.length:Nat) X) {a b:Nat} (h:Con X a b):Con T a b:=by
 refine h.closed hX (fun y=>Con T a y) (fun x y hx hxy=>?_) (Con.refl a)
 obtain ⟨c,d,rfl,rfl,f⟩:=of_besd hxy
 have e:c<3 * T.length:=by have:=hX.opp_lt f;have:=n.len;omega
 exact hx.step hs (besd_of hs ((n.opp_iff hs hp e).1 f).1)
theorem Pt.alike (hs:Surf N T) {out:List Int} {n:Nat} (h:Pt T out n T.length) {x y:Nat} (hx:x<T.length) (hy:y<T.length):out.getD x 0=out.getD y 0↔Con T x y:=by
 obtain ⟨i,f,e,a⟩:=h.all_in hx
 obtain ⟨j,g,b,d⟩:=h.all_in hy
 rw [List.getD_eq_getElem?_getD,List.getD_eq_getElem?_getD,e,b]
 simp only [Option.getD_some]
 constructor
 ·intro c
  have:i=j:=by omega
  subst this
  exact (a.symm hs).trans hs d
 ·intro c
  have:=h.at_ hs f hy (a.trans hs c)
  rw [b] at this
  exact (Option.some.inj this).symm
theorem Numb.shells {C:List (Int × Int)} (n:Numb N T C X O) (hs:Surf N T) (hp:Parts T C) (hX:Surf (O.length:Nat) X) {ot ox:List Int} {ct cx:Nat} (h1:Pt T ot ct T.length) (h2:Pt X ox cx T.length) {L:List Nat} (hL:L.Nodup)
  (hl:∀ x∈L,x<cx) (hno:∀ x∈L,∀ i,i<ct->(ox.getD (sd T i) 0).toNat≠x):ct+L.length<=cx:=by
 have p:=n.len
 have q:Pt X ox cx X.length:=by rw [p];exact h2
 have o:∀ x,x<T.length->(ox.getD x 0).toNat<cx/\Con X (sd X (ox.getD x 0).toNat) x:=fun x hx=>by
  obtain ⟨i,c,v,u⟩:=q.all_in (x:=x) (by omega)
  have e:(ox.getD x 0).toNat=i:=by rw [List.getD_eq_getElem?_getD,v];simp
  rw [e]
  exact ⟨c,u⟩
 have g:∀ i,i<ct->sd T i<T.length:=fun i c=>hs.sd_lt (by have:=h1.np;omega)
 have s:((List.range ct).map fun i=>(ox.getD (sd T i) 0).toNat).Nodup:=nodup_map_inj List.nodup_range fun i c j h l=>by
  have c:=List.mem_range.1 c
  have h:=List.mem_range.1 h
  have t:=(o _ (g i c)).2
  have w:=(o _ (g j h)).2
  have l:(ox.getD (sd T i) 0).toNat=(ox.getD (sd T j) 0).toNat:=l
  rw [l] at t
  have r:=n.con hs hp hX ((t.symm hX).trans hX w)
  rcases Nat.lt_trichotomy i j with d | d | d
  ·exact absurd r (h1.apart i j d h)
  ·exact d
  ·exact absurd (r.symm hs) (h1.apart j i d c)
 have k:(((List.range ct).map fun i=>(ox.getD (sd T i) 0).toNat)++L).Nodup:=by
  rw [List.nodup_append]
  refine ⟨s,hL,fun a ha b hb f=>?_⟩
  obtain ⟨i,c,rfl⟩:=List.mem_map.1 ha
  exact hno b hb i (List.mem_range.1 c) f
 have:=nodup_len (m:=List.range cx) k fun x hx=>by
  rw [List.mem_range]
  rcases List.mem_append.1 hx with f | f
  ·obtain ⟨i,c,rfl⟩:=List.mem_map.1 f
   exact (o _ (g i (List.mem_range.1 c))).1
  ·exact hl x f
 rw [List.length_append,List.length_map,List.length_range,List.length_range] at this
 exact this
theorem Star.more (s:Star N T v X O) {ot ox:List Int} {ct cx:Nat} (h1:Pt T ot ct T.length) (h2:Pt X ox cx T.length) (hop:∀ c,c<3 * T.length->vt T c=v->∃ d,opp T c=some d):ct<cx:=by
 have t:=s.numb.len
 have a:=s.surf
 have n:Pt X ox cx X.length:=by rw [t];exact h2
 obtain ⟨c,r,g⟩:=s.corner
 obtain ⟨o,w⟩:=hop c r g
 have P:=(a.opp_iff.1 w).1
 have J:AtV T v (c / 3):=⟨c,r,rfl,g⟩
 have K:=s.across r g w
 have A:Con T (c / 3) (o / 3):=(Con.refl _).step a (besd_of a w)
 have u:¬ Con X (c / 3) (o / 3):=fun h=>K ((s.shell J).2 h)
 have p:c / 3<T.length:=by omega
 have B:o / 3<T.length:=by omega
 obtain ⟨b,D,U,z⟩:=h1.all_in p
 have Q:sd T b<T.length:=a.sd_lt (by have:=h1.np;omega)
 obtain ⟨y,S,E,F⟩:∃ y,y<T.length/\Con T (sd T b) y/\¬ Con X (sd T b) y:=by
  by_cases e:Con X (sd T b) (c / 3)
  ·exact ⟨o / 3,B,z.trans a A,fun l=>u ((e.symm s.cut).trans s.cut l)⟩
  ·exact ⟨c / 3,p,z,e⟩
 obtain ⟨j,M,V,G⟩:=n.all_in (x:=y) (by omega)
 have q:=s.numb.shells a s.parts s.cut h1 h2 (L:=[j]) (by simp) (fun x hx=>by rw [List.mem_singleton.1 hx];exact M) fun x hx i hi e=>by
  rw [List.mem_singleton.1 hx] at e
  have R:sd T i<T.length:=a.sd_lt (by have:=h1.np;omega)
  obtain ⟨m,W,I,H⟩:=n.all_in (x:=sd T i) (by omega)
  rw [List.getD_eq_getElem?_getD,I] at e
  have:m=j:=by simpa using e
  subst this
  have k:Con X (sd T i) y:=(H.symm s.cut).trans s.cut G
  have C:=s.numb.con a s.parts s.cut k
  have l:=E.trans a (C.symm a)
  rcases Nat.lt_trichotomy i b with f | f | f
  ·exact h1.apart i b f D (l.symm a)
  ·rw [f] at k;exact F k
  ·exact h1.apart b i f hi l
 have q:ct+1<=cx:=q
 omega
theorem lp_opp (hs:Surf N T) (hv:0<=v/\v<N) (hi:innerAt T N v=true) (h:lpN N T (linkAt T N v)=0) {c:Nat} (hc:c<3 * T.length) (hcv:vt T c=v):∃ d,opp T c=some d:=by
 obtain ⟨i,a,e⟩:=mem_loopE.1 (star_edge hs hv hi hc hcv)
 obtain ⟨_,_,_,_,b⟩:=loop_open h
 obtain ⟨_,d,f⟩:=b i a
 refine ⟨d,?_⟩
 show facing T ((eg T c).2,(eg T c).1)=some d
 rw [e]
 exact f
theorem Star.many (s:Star N T v X O) {ox:List Int} {cx:Nat} (h2:Pt X ox cx T.length) {c:Nat} (hc:c<3 * T.length) (hcv:vt T c=v):(ox.countP fun n=>n == ox.getD (c / 3) 0)=(linkAt T N v).length:=by
 have f:=s.numb.len
 have e:=s.surf
 have h:Pt X ox cx X.length:=by rw [f];exact h2
 have m:AtV T v (c / 3):=⟨c,hc,rfl,hcv⟩
 have p:ox=(List.range T.length).map fun x=>ox.getD x 0:=by
  refine List.ext_getElem (by rw [List.length_map,List.length_range,h2.len];exact f) fun i g1 g2=>?_
  rw [List.getElem_map,List.getElem_range,List.getD_eq_getElem?_getD,List.getElem?_eq_getElem g1];rfl
 have q:(ox.countP fun n=>n == ox.getD (c / 3) 0)=((List.range T.length).filter fun x=>ox.getD x 0 == ox.getD (c / 3) 0).length:=by
  rw [<- List.countP_eq_length_filter]
  conv=>lhs;arg 2;rw [p]
  rw [List.countP_map];rfl
 have r:(linkAt T N v).length=((ringAt T N v).map fun x=>x / 3).length:=by
  rw [link_len e s.rng,if_pos s.inner,List.length_map];rfl
 rw [q,r]
 refine same_len (List.nodup_range.filter _) (nodup_map_inj (e.ring_nodup v) fun a h1 b h3 k=>?_) fun x=>?_
 ·have g:=(e.ring_mem v a).1 h1
  have l:=(e.ring_mem v b).1 h3
  exact e.same_tri g.1 k (by rw [g.2,l.2])
 ·rw [List.mem_filter,List.mem_range,beq_iff_eq,List.mem_map]
  constructor
  ·rintro ⟨t,k⟩
   obtain ⟨d,j,rfl,o⟩:=(s.shell m).2 ((h.alike s.cut (x:=c / 3) (y:=x) (by omega) (by omega)).1 k.symm)
   exact ⟨d,(e.ring_mem v d).2 ⟨j,o⟩,rfl⟩
  ·rintro ⟨d,j,rfl⟩
   obtain ⟨g,l⟩:=(e.ring_mem v d).1 j
   exact ⟨by omega,((h.alike s.cut (x:=c / 3) (y:=d / 3) (by omega) (by omega)).2 ((s.shell m).1 ⟨d,g,rfl,l⟩)).symm⟩
end
end Go.Mesh
