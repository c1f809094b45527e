/- Plain: what was cut along a ring is joined again; no program in sight. -/
import Derived.Test.YtpbdcppaiafbgaaGreatNE
import Derived.Test.YtpbdcppaiafbgaaGreatOJ
namespace Go.Mesh
section
variable {N : Int} {T X : List T3} {O : List Int} {v : Int}
theorem Round.next {L:List Nat} (h:Round X L) (j:Int):aftV X (jAt L j)=some (jAt L (j+1)):=by
 obtain ⟨i,f,b,c⟩:=h.at_ j;obtain ⟨k,g,d,e⟩:=h.at_ (j+1);have a:k=(i+1) % L.length:=by
  have:(k:Int)=((i+1) % L.length:Nat):=by
   rw [e,Int.natCast_emod,Int.natCast_add,c];exact (Int.emod_add_emod j (L.length:Int) 1).symm
  exact Int.ofNat.inj this
 subst a;rw [b,d];exact h.2.2 i f
theorem jAt_per {L:List Nat} {i j:Int} (h:i % (L.length:Int)=j % (L.length:Int)):jAt L i=jAt L j:=by unfold jAt;rw [h]
theorem Round.run {L:List Nat} (h:Round X L) {g:Int->Int} (hp:∀ j,0<=g j) (hper:∀ i j:Int,i % (L.length:Int)=j % (L.length:Int)->g i=g j) (ha:∀ j,aftV X (g j)=some (g (j+1))) {t:Int} (ht:(g t).toNat∈L):∃ s,∀ i:Int,jAt L i=g (s+i):=by
 obtain ⟨k,q,m⟩:=List.getElem_of_mem ht;have o:=h.1;have e:jAt L (k:Int)=g t:=by
  obtain ⟨i,p,b,l⟩:=h.at_ (k:Int);rw [Int.emod_eq_of_lt (by omega) (by omega)] at l;have d:i=k:=by omega
  subst d;rw [b,m];exact Int.toNat_of_nonneg (hp t)
 have f:∀ n:Nat,jAt L ((k:Int)+n)=g (t+n):=by
  intro n
  induction n with
  | zero=>simpa using e
  | succ n ih =>
   have a:=h.next ((k:Int)+n);rw [ih,ha] at a;have a:=Option.some.inj a;rw [show (k:Int)+(n+1:Nat)=(k:Int)+n+1 by omega,show t+((n+1:Nat):Int)=t+n+1 by omega];exact a.symm
 refine ⟨t - k,fun i=>?_⟩;have c:=Int.emod_nonneg (i - k) (by omega:(L.length:Int)≠0);obtain ⟨n,c⟩:∃ n:Nat,(i - k) % (L.length:Int)=n:=⟨((i - k) % (L.length:Int)).toNat,by omega⟩;have b:jAt L i=jAt L ((k:Int)+n):=jAt_per (by
  rw [<- c,Int.add_emod_emod,show (k:Int)+(i - k)=i by omega])
 rw [b,f n];refine hper _ _ ?_;rw [<- c,Int.add_emod_emod,show t+(i - (k:Int))=t - k+i by omega]
theorem Ringed.runA (r:Ringed N T v X O) {p:List Nat} (hp:Round X p) {x:Nat} (h1:x∈loA T X N v) (h2:x∈p):p.length=(linkAt T N v).length/\∃ s,∀ i:Int,jAt p i=lkA T X N v (s - i):=by
 have a:p.length=(linkAt T N v).length:=(hp.same_len r.roundA h2 h1).trans (rl_len _ _);refine ⟨a,?_⟩;obtain ⟨j,rfl⟩:=rl_inA h1;obtain ⟨s,b⟩:=hp.run (g:=fun j=>lkA T X N v (-j)) (t:=-j) (fun j=>r.rngA _) (fun i j h=>by
  show vt X _=vt X _;rw [a] at h;rw [lkC_per (mod_neg.2 h)]) (fun j=>by
  have:=r.aftA (-(j+1))
  rwa [show -(j+1)+1 = -j by omega] at this) (by
  show (lkA T X N v (- -j)).toNat∈p
  rwa [Int.neg_neg])
 exact ⟨-s,fun i=>by rw [b];show lkA T X N v _=_;rw [show -(s+i) = -s - i by omega]⟩
theorem Ringed.runB (r:Ringed N T v X O) {p:List Nat} (hp:Round X p) {x:Nat} (h1:x∈loB T X N v) (h2:x∈p):p.length=(linkAt T N v).length/\∃ s,∀ i:Int,jAt p i=lkB T X N v (s+i):=by
 have a:p.length=(linkAt T N v).length:=(hp.same_len r.roundB h2 h1).trans (rl_len _ _);refine ⟨a,?_⟩;obtain ⟨j,rfl⟩:=rl_inB h1;exact hp.run (g:=fun j=>lkB T X N v j) (t:=j) (fun j=>r.rngB _) (fun i j h=>by
  show vt X _=vt X _;rw [a] at h;rw [lkD_per h]) (fun j=>r.aftB j) h2
theorem Ringed.egC (r:Ringed N T v X O) (j:Int):eg X (lkC T N v j)=(lkA T X N v j,lkA T X N v (j+1)):=by
 rw [<- r.nextC j];rfl
theorem Ringed.egD (r:Ringed N T v X O) (j:Int):eg X (lkD T N v j)=(lkB T X N v (j+1),lkB T X N v j):=by
 rw [<- r.nextD j];rfl
theorem Ringed.perA {i j:Int} (h:i % ((linkAt T N v).length:Int)=j % ((linkAt T N v).length:Int)):lkA T X N v i=lkA T X N v j:=by
 show vt X _=vt X _;rw [lkC_per h]
theorem Ringed.perB {i j:Int} (h:i % ((linkAt T N v).length:Int)=j % ((linkAt T N v).length:Int)):lkB T X N v i=lkB T X N v j:=by
 show vt X _=vt X _;rw [lkD_per h]
theorem Ringed.told (r:Ringed N T v X O) {E:Nat->Int × Int} {g:Nat->Int} (hE:∀ i,E i=(lk T N v (g i),lk T N v (g i+1))\/E i=(lk T N v (g i+1),lk T N v (g i)))
  (hinj:∀ i j,i<(linkAt T N v).length->j<(linkAt T N v).length->g i % ((linkAt T N v).length:Int)=g j % ((linkAt T N v).length:Int)->i=j)
  (hsur:∀ j:Int,∃ i,i<(linkAt T N v).length/\g i % ((linkAt T N v).length:Int)=j % ((linkAt T N v).length:Int)) :
  Told T ((loopE (linkAt T N v)).map nm) ((List.range (linkAt T N v).length).map E):=by
 have s:=r.star;have p:=s.surf;have C:=s.three;have b:∀ i,nm (E i)=nm (lk T N v (g i),lk T N v (g i+1)):=fun i=>by
  rcases hE i with h | h
  ·rw [h]
  ·rw [h,nm_swap]
 refine ⟨fun e a=>?_,?_,fun x=>?_⟩
 ·obtain ⟨i,_,rfl⟩:=List.mem_map.1 a;obtain ⟨l,z,f,A,_⟩:=s.two r.hop (g i);have m:=p.facing_eg l;have n:=p.facing_eg z;rw [f] at m;rw [A] at n;rcases hE i with h | h
  ·rw [h];exact ⟨⟨_,m⟩,_,n⟩
  ·rw [h];exact ⟨⟨_,n⟩,_,m⟩
 ·rw [List.map_map];refine nodup_map_inj List.nodup_range fun i d j o a=>?_
  have d:=List.mem_range.1 d;have o:=List.mem_range.1 o;have a:nm (E i)=nm (E j):=a;rw [b,b] at a;rcases nm_eq.1 a with ⟨c,_⟩ | ⟨c,B⟩
  ·exact hinj i j d o (s.lk_inj c)
  ·have q:=s.lk_inj c;have t:=s.lk_inj B;exfalso;have u:=Int.emod_eq_emod_iff_emod_sub_eq_zero.1 q;have w:=Int.emod_eq_emod_iff_emod_sub_eq_zero.1 t;have l:=Int.dvd_of_emod_eq_zero u;have y:=Int.dvd_of_emod_eq_zero w;have f:=Int.dvd_sub y l;rw [show g i+1 - g j - (g i - (g j+1))=2 by omega] at f;have:=Int.le_of_dvd (by omega) f;omega
 ·constructor
  ·intro k;obtain ⟨e,a,rfl⟩:=List.mem_map.1 k;obtain ⟨j,rfl⟩:=s.lk_of a;obtain ⟨i,d,c⟩:=hsur j;rw [List.map_map];refine List.mem_map.2 ⟨i,List.mem_range.2 d,?_⟩;show nm (E i)=_;rw [b,lk_per c,lk_per (mod_succ.2 c)]
  ·intro k;rw [List.map_map] at k;obtain ⟨i,_,rfl⟩:=List.mem_map.1 k;show nm (E i)∈_;rw [b];exact List.mem_map_of_mem (s.lk_step (g i))
theorem mod_reach {m:Nat} (hm:0<m) (s j:Int):∃ i:Nat,i<m/\(s+(i:Int)) % (m:Int)=j % (m:Int):=by
 have a:=Int.emod_nonneg (j - s) (by omega:(m:Int)≠0);have b:=Int.emod_lt_of_pos (j - s) (by omega:(0:Int)<m);refine ⟨((j - s) % (m:Int)).toNat,by omega,?_⟩;rw [Int.toNat_of_nonneg a,Int.add_emod_emod,show s+(j - s)=j by omega]
theorem mod_add {m s i j:Int}:(s+i) % m=(s+j) % m↔i % m=j % m:=by
 rw [Int.emod_eq_emod_iff_emod_sub_eq_zero,Int.emod_eq_emod_iff_emod_sub_eq_zero,show s+i - (s+j)=i - j by omega]
theorem Ringed.joined (r:Ringed N T v X O) {p q:List Nat} (hp:Round X p) (hq:Round X q)
  (hpq:((∃ x∈loA T X N v,x∈p)/\∃ x∈loB T X N v,x∈q)\/((∃ x∈loB T X N v,x∈p)/\∃ x∈loA T X N v,x∈q)) {t:Nat} (ht:t<q.length)
  (he:O.getD q[t] 0=O.getD (p[0]'hp.1) 0):∃ Es,Told T ((loopE (linkAt T N v)).map nm) Es/\joinP p q (t:Int)=Es.map (pairE T X):=by
 have s:=r.star;have I:=s.three;have G:∀ {L:List Nat} {i:Nat} (c:i<L.length),jAt L (i:Int)=(L[i]:Int):=fun {L i} c=>by
  unfold jAt;rw [Int.emod_eq_of_lt (by omega) (by omega),Int.toNat_natCast,List.getD_eq_getElem?_getD,zG c];rfl
 have A:∀ {L:List Nat} {i:Nat} (c:i<L.length) {y z:Int},jAt L (i:Int)=y->O[y.toNat]? = some z->O.getD L[i] 0=z:=fun {L i} c {y z} w h2=>by
  rw [G c] at w;rw [<- w,Int.toNat_natCast] at h2;rw [List.getD_eq_getElem?_getD,h2];rfl
 rcases hpq with ⟨⟨x,l,n⟩,y,o,u⟩ | ⟨⟨x,l,n⟩,y,o,u⟩
 ·obtain ⟨D,a,d⟩:=r.runA hp l n;obtain ⟨H,b,e⟩:=r.runB hq o u;have B:=A hp.1 (d ((0:Nat):Int)) (r.oA _);have C:=A ht (e (t:Int)) (r.oB _);rw [B,C] at he;have f:=s.lk_inj he;rw [show a - ((0:Nat):Int)=a by omega] at f;refine ⟨(List.range (linkAt T N v).length).map fun i:Nat=>(lk T N v (a - i - 1),lk T N v (a - i - 1+1)),r.told (g:=fun i=>a - i - 1) (fun i=>.inl rfl) (fun i j c hj h=>?_) (fun j=>?_),?_⟩
  ·have h:(a - (i:Int) - 1) % _=(a - (j:Int) - 1) % _:=h;exact mod_inj a c hj h
  ·obtain ⟨i,c,w⟩:=mod_reach (m:=(linkAt T N v).length) (by omega) (1 - a) (-j);refine ⟨i,c,?_⟩;have:=mod_neg.2 w;rw [Int.neg_neg] at this;rw [<- this];exact congrArg (fun k:Int=>k % _) (by omega)
  ·rw [List.map_map];unfold joinP;rw [D];refine List.map_congr_left fun i _=>?_
   show _=(eg X (lkC T N v (a - i - 1)),eg X (lkD T N v (a - i - 1)));rw [r.egC,r.egD,d,d,e,e];have E:lkB T X N v (b+((t:Int) - i))=lkB T X N v (a - i - 1+1):=Ringed.perB (by
    rw [show b+((t:Int) - i) = -i+(b+t) by omega,show a - (i:Int) - 1+1 = -i+a by omega];exact mod_add.2 f)
   have F:lkB T X N v (b+((t:Int) - i - 1))=lkB T X N v (a - i - 1):=Ringed.perB (by
    rw [show b+((t:Int) - i - 1)=(-i - 1)+(b+t) by omega,show a - (i:Int) - 1=(-i - 1)+a by omega];exact mod_add.2 f)
   rw [E,F,show a - ((i:Int)+1)=a - i - 1 by omega,show a - (i:Int) - 1+1=a - i by omega]
 ·obtain ⟨D,a,d⟩:=r.runB hp l n;obtain ⟨H,b,e⟩:=r.runA hq o u;have B:=A hp.1 (d ((0:Nat):Int)) (r.oB _);have C:=A ht (e (t:Int)) (r.oA _);rw [B,C] at he;have f:=s.lk_inj he;rw [show a+((0:Nat):Int)=a by omega] at f;refine ⟨(List.range (linkAt T N v).length).map fun i:Nat=>(lk T N v (a+i+1),lk T N v (a+i)),r.told (g:=fun i=>a+i) (fun i=>.inr rfl) (fun i j c hj h=>?_) (fun j=>?_),?_⟩
  ·have h:(a+(i:Int)) % _=(a+(j:Int)) % _:=h;have h:=mod_add.1 h;rw [Int.emod_eq_of_lt (by omega) (by omega),Int.emod_eq_of_lt (by omega) (by omega)] at h;omega
  ·exact mod_reach (by omega) a j
  ·rw [List.map_map];unfold joinP;rw [D];refine List.map_congr_left fun i _=>?_
   show _=(eg X (lkD T N v (a+i)),eg X (lkC T N v (a+i)));rw [r.egC,r.egD,d,d,e,e];have E:lkA T X N v (b - ((t:Int) - i))=lkA T X N v (a+i):=Ringed.perA (by
    rw [show b - ((t:Int) - i)=i+(b - t) by omega,show a+(i:Int)=i+a by omega];exact mod_add.2 f)
   have F:lkA T X N v (b - ((t:Int) - i - 1))=lkA T X N v (a+i+1):=Ringed.perA (by
    rw [show b - ((t:Int) - i - 1)=(i+1)+(b - t) by omega,show a+(i:Int)+1=(i+1)+a by omega];exact mod_add.2 f)
   rw [E,F,show a+((i:Int)+1)=a+i+1 by omega]
theorem Ringed.turns (r:Ringed N T v X O) {p q:List Nat} (hp:Round X p) (hq:Round X q)
  (hpq:((∃ x∈loA T X N v,x∈p)/\∃ x∈loB T X N v,x∈q)\/((∃ x∈loB T X N v,x∈p)/\∃ x∈loA T X N v,x∈q)):q.length=p.length/\∃ t,∃ A:t<q.length,O.getD q[t] 0=O.getD (p[0]'hp.1) 0:=by
 have s:=r.star;have B:=s.three;have w:∀ {L:List Nat} {i:Nat} (hi:i<L.length),jAt L (i:Int)=(L[i]:Int):=fun {L i} hi=>by
  unfold jAt;rw [Int.emod_eq_of_lt (by omega) (by omega),Int.toNat_natCast,List.getD_eq_getElem?_getD,zG hi];rfl
 have l:∀ {L:List Nat} {i:Nat} (hi:i<L.length) {y z:Int},jAt L (i:Int)=y->O[y.toNat]? = some z->O.getD L[i] 0=z:=fun {L i} hi {y z} d h2=>by
  rw [w hi] at d;rw [<- d,Int.toNat_natCast] at h2;rw [List.getD_eq_getElem?_getD,h2];rfl
 rcases hpq with ⟨⟨x,f,g⟩,y,h,j⟩ | ⟨⟨x,f,g⟩,y,h,j⟩
 ·obtain ⟨u,a,n⟩:=r.runA hp f g;obtain ⟨e,b,o⟩:=r.runB hq h j;refine ⟨e.trans u.symm,?_⟩;obtain ⟨t,A,d⟩:=mod_reach (m:=(linkAt T N v).length) (by omega) b a;have c:t<q.length:=by omega
  refine ⟨t,c,?_⟩;rw [l hp.1 (n ((0:Nat):Int)) (r.oA _),l c (o (t:Int)) (r.oB _),show a - ((0:Nat):Int)=a by omega];exact lk_per d
 ·obtain ⟨u,a,n⟩:=r.runB hp f g;obtain ⟨e,b,o⟩:=r.runA hq h j;refine ⟨e.trans u.symm,?_⟩;obtain ⟨t,A,d⟩:=mod_reach (m:=(linkAt T N v).length) (by omega) (-b) (-a);have c:t<q.length:=by omega
  refine ⟨t,c,?_⟩;rw [l hp.1 (n ((0:Nat):Int)) (r.oB _),l c (o (t:Int)) (r.oA _),show a+((0:Nat):Int)=a by omega];refine lk_per (mod_neg.1 ?_);rw [<- d];exact congrArg (fun k:Int=>k % _) (by omega)
theorem Ringed.back (r:Ringed N T v X O) {p q:List Nat} (hp:Round X p) (hq:Round X q)
  (hpq:((∃ x∈loA T X N v,x∈p)/\∃ x∈loB T X N v,x∈q)\/((∃ x∈loB T X N v,x∈p)/\∃ x∈loA T X N v,x∈q)) {t:Nat} (ht:t<q.length)
  (he:O.getD q[t] 0=O.getD (p[0]'hp.1) 0):sewT (labE (edP (joinP p q (t:Int)))) X=T/\rnk (labE (edP (joinP p q (t:Int)))) O.length=N.toNat/\sewOf (labE (edP (joinP p q (t:Int)))) O.length=O:=by
 have a:=r.star.surf;obtain ⟨d,b,c⟩:=r.joined hp hq hpq ht he;have u:=undo r.star.numb a b;rw [c];refine ⟨u.sewn a,u.rnk_all a,?_⟩;refine (u.of a).trans (List.ext_getElem (by simp) fun i h3 h4=>?_);rw [List.getElem_map,List.getElem_range,Int.toNat_natCast,List.getD_eq_getElem?_getD,zG h4];rfl
end
theorem jpt_put (O:List Int) (P:List T3) (n:Nat) (hn:n<=P.length):∀ r,r<=O.length->∀ (k:Nat),k<n->(∃ i,∃ hi:i<O.length,O.length - r<=i/\O[i]=(k:Int))->(jpt O (ptsOf P O) n r)[k]? = P[k]?
 | 0,_,k,hk,⟨i,hi,h1,_⟩=>by omega
 | r+1,hr,k,hk,⟨i,hi,h1,h2⟩=>by
  have b:O.length - 1 - r<O.length:=by omega
  have e:O.getD (O.length - 1 - r) 0=O[O.length - 1 - r]:=by rw [List.getD_eq_getElem?_getD,zG b];rfl
  have c:(ptsOf P O).getD (O.length - 1 - r) (0,0,0)=P.getD (O[O.length - 1 - r]).toNat (0,0,0):=by
   unfold ptsOf;rw [List.getD_eq_getElem?_getD,List.getElem?_map,zG b];rfl
  unfold jpt;rw [e,c];by_cases a:(O[O.length - 1 - r]).toNat=k
  ·rw [a,List.getElem?_set_self (by rw [jpt_len];exact hk),List.getD_eq_getElem?_getD,zG (show k<P.length by omega)];rfl
  ·rw [List.getElem?_set_ne a];refine jpt_put O P n hn r (by omega) k hk ⟨i,hi,?_,h2⟩;rcases Nat.lt_or_ge (O.length - 1 - r) i with d | d
   ·omega
   ·have:i=O.length - 1 - r:=by omega
    subst this;rw [h2] at a;exact absurd (Int.toNat_natCast k) a
theorem jpt_back {O:List Int} {P:List T3} (hold:∀ k:Nat,k<P.length->O[k]? = some (k:Int)):jpt O (ptsOf P O) P.length O.length=P:=by
 refine List.ext_getElem (jpt_len _ _ _ _) fun k h1 h2=>?_
 obtain ⟨a,b⟩:=List.getElem?_eq_some_iff.1 (hold k h2);have:=jpt_put O P P.length zl O.length zl k h2 ⟨k,a,by omega,b⟩;rw [zG h1,zG h2] at this;exact Option.some.inj this
section
variable {N : Int} {T X : List T3} {O : List Int} {v : Int}
theorem Ringed.two (r:Ringed N T v X O):∃ i j,∃ (e:i<(lps X (O.length:Nat) O.length).length) (g:j<(lps X (O.length:Nat) O.length).length),i<j /\
  ((List.range (lps X (O.length:Nat) O.length).length).filter fun k=>ofRing (linkAt T N v) O ((lps X (O.length:Nat) O.length).getD k []))=[i,j] /\
  Round X (lps X (O.length:Nat) O.length)[i]/\Round X (lps X (O.length:Nat) O.length)[j] /\
  (((∃ x∈loA T X N v,x∈(lps X (O.length:Nat) O.length)[i])/\∃ x∈loB T X N v,x∈(lps X (O.length:Nat) O.length)[j])\/((∃ x∈loB T X N v,x∈(lps X (O.length:Nat) O.length)[i])/\∃ x∈loA T X N v,x∈(lps X (O.length:Nat) O.length)[j])):=by
 obtain ⟨i,j,e,g,q,n,o,p⟩:=r.which;have f:∀ i (e:i<(lps X (O.length:Nat) O.length).length),Round X (lps X (O.length:Nat) O.length)[i]:=fun i e=>r.star.cut.lps_round (List.getElem_mem e)
 have l:∀ a b,a<b->(∀ k,k=i\/k=j↔k=a\/k=b)->((List.range (lps X (O.length:Nat) O.length).length).filter fun k=>ofRing (linkAt T N v) O ((lps X (O.length:Nat) O.length).getD k []))=[a,b]:=fun a b hab h=>by
  refine lt_lists (List.pairwise_lt_range.sublist List.filter_sublist) (by simp [hab]) fun k=>?_
  rw [List.mem_filter,List.mem_range];simp only [List.mem_cons,List.not_mem_nil,or_false];constructor
  ·rintro ⟨c,d⟩;rw [List.getD_eq_getElem?_getD,zG c,Option.getD_some] at d;exact (h k).1 ((p k c).1 d)
  ·intro c;have d:=(h k).2 c;have m:k<(lps X (O.length:Nat) O.length).length:=by rcases d with rfl | rfl <;> assumption
   refine ⟨m,?_⟩;rw [List.getD_eq_getElem?_getD,zG m,Option.getD_some];exact (p k m).2 d
 rcases Nat.lt_or_ge i j with c | c
 ·exact ⟨i,j,e,g,c,l i j c fun k=>Iff.rfl,f i e,f j g,.inl ⟨n,o⟩⟩
 ·have d:j<i:=by omega
  exact ⟨j,i,g,e,d,l j i d fun k=>or_comm,f j g,f i e,.inr ⟨o,n⟩⟩
end
end Go.Mesh
namespace Go.Proofs.YtpbdcppaiafbgaaGreat
open Go Go.RowKit Go.Words Go.Mesh
theorem rows_below {w w':World} {base:Nat} {r:Value} {Ls:List (List Nat)} (h:OwnRows w base r Ls) (hb:Below w.heap.size w w'):OwnRows w' base r Ls:=by
 obtain ⟨d,a,b,c⟩:=h;exact ⟨d,a,own_below b hb zl,fun i v L e1 e2=>own_below (c i v L e1 e2) hb zl⟩
theorem rows_at {w:World} {base gr n cap:Nat} {Ls:List (List Nat)} (h:OwnRows w base (.slice (some ⟨gr,0,none⟩) n cap) Ls) (hn:Ls.length=n) {i:Nat} (hi:i<Ls.length) (hpos:0<Ls[i].length) :
  ∃ a capl,w.cell? ⟨gr,i,none⟩=some (.slice (some ⟨a,0,none⟩) Ls[i].length capl)/\a<w.heap.size/\∀ r (hr:r<Ls[i].length),w.cell? ⟨a,r,none⟩=some (.int .i64 (Ls[i][r]:Int)):=by
 obtain ⟨g,v,e,d,_,_,b⟩:=h.at_ hn hi;injection e with e;injection e with e;subst e;obtain ⟨A,c,rfl,_⟩:=own_form b;obtain ⟨a,rfl⟩:=own_addr b hpos;refine ⟨a,c,d,?_,fun r hr=>(own_cell b (nvals_at hr)).1⟩;exact (own_cell b (nvals_at hpos)).2.2
theorem rows_at2 {w:World} {base gr n cap:Nat} {Ls:List (List Nat)} (h:OwnRows w base (.slice (some ⟨gr,0,none⟩) n cap) Ls) (hn:Ls.length=n) {i:Nat} {L:List Nat} (hi:Ls[i]? = some L) (hpos:0<L.length) :
  ∃ gl capl,w.cell? ⟨gr,i,none⟩=some (.slice (some ⟨gl,0,none⟩) L.length capl)/\gl<w.heap.size/\∀ r (hr:r<L.length),w.cell? ⟨gl,r,none⟩=some (.int .i64 (L[r]:Int)):=by
 obtain ⟨a,rfl⟩:=List.getElem?_eq_some_iff.1 hi;exact rows_at h hn a hpos
def GluedB (w0:World) (N:Int) (T P:List T3) (K:List Int) (s t:Value) (wx:World):Prop :=
 ∃ (g:Nat) (A1 A2 A3:Option Addr) (c1 c2 c3:Nat),s=.pointer (some ⟨g,0,none⟩)/\t=.int .i64 0/\Bk wx g 67 [.int .i64 N,.slice A1 T.length c1,.slice A2 P.length c2,.slice A3 K.length c3] /\
  Sl 3 RTri wx wx.heap.size (.slice A1 T.length c1) T/\Sl 3 RTri wx wx.heap.size (.slice A2 P.length c2) P/\Sl 1 RInt wx wx.heap.size (.slice A3 K.length c3) K/\Below w0.heap.size w0 wx
theorem agg4_inj {a b c d a' b' c' d':Value} (h:Value.agg #[a,b,c,d]=.agg #[a',b',c',d']):a=a'/\b=b'/\c=c'/\d=d':=by
 injection h with h;have:=congrArg Array.toList h;simpa using this
theorem glued_shape {wz:World} {N:Int} {T P:List T3} {K:List Int} {u:Value} (h:∃ i pv g,u=.agg #[.int .i64 N,i,pv,g]/\Sl 3 RTri wz wz.heap.size i T/\Sl 3 RTri wz wz.heap.size pv P/\Sl 1 RInt wz wz.heap.size g K) :
  ∃ a b c d e f,u=.agg #[.int .i64 N,.slice a T.length d,.slice b P.length e,.slice c K.length f]/\Sl 3 RTri wz wz.heap.size (.slice a T.length d) T/\Sl 3 RTri wz wz.heap.size (.slice b P.length e) P/\Sl 1 RInt wz wz.heap.size (.slice c K.length f) K:=by
 obtain ⟨i,pv,g,rfl,j,k,l⟩:=h;obtain ⟨a,d,rfl,_⟩:=j.form;obtain ⟨b,e,rfl,_⟩:=k.form;obtain ⟨c,f,rfl,_⟩:=l.form;exact ⟨a,b,c,d,e,f,rfl,j,k,l⟩
theorem glued_sl {wz:World} {N:Int} {T P:List T3} {K:List Int} {A1 A2 A3:Option Addr} {c1 c2 c3:Nat} (h:∃ b pv a,Value.agg #[.int .i64 N,.slice A1 T.length c1,.slice A2 P.length c2,.slice A3 K.length c3]=.agg #[.int .i64 N,b,pv,a]/\Sl 3 RTri wz wz.heap.size b T/\Sl 3 RTri wz wz.heap.size pv P/\Sl 1 RInt wz wz.heap.size a K) :
  Sl 3 RTri wz wz.heap.size (.slice A1 T.length c1) T/\Sl 3 RTri wz wz.heap.size (.slice A2 P.length c2) P/\Sl 1 RInt wz wz.heap.size (.slice A3 K.length c3) K:=by
 obtain ⟨b,pv,a,e,c,d,f⟩:=h;obtain ⟨_,rfl,rfl,rfl⟩:=agg4_inj e;exact ⟨c,d,f⟩
theorem found_succ {lo O:List Int} {Ls:List (List Nat)} {i:Nat} (hi:i<Ls.length):((List.range (i+1)).filter fun k=>ofRing lo O (Ls.getD k []))=((List.range i).filter fun k=>ofRing lo O (Ls.getD k []))++if ofRing lo O Ls[i]=true then [i] else []:=by
 rw [List.range_succ,List.filter_append,List.filter_cons,List.filter_nil,List.getD_eq_getElem?_getD,zG hi];rfl
section
variable {N : Int} {T X P : List T3} {O K : List Int} {v : Int}
theorem mayB_len (h:mayB N T P K=true):(P.length:Int)=N:=by
 unfold mayB at h;rw [Bool.and_eq_true] at h;exact (of_decide_eq_true h.1).1
theorem opens_ok {l:List Int} (hs:Surf N T) (hmb:mayB N T P K=true) (hlp:lpN N T l=0) (hfew:(newO N T ((lpE l).map nm)).length<=4096) {c:Int} (h:OpenC N T P K l c):c=0:=by
 rcases h with ⟨a,_⟩ | ⟨_,a,_⟩ | ⟨_,_,⟨a,_⟩ | ⟨_,a,_⟩ | ⟨_,_,a⟩⟩
 ·exact absurd hs a
 ·rw [hmb] at a;cases a
 ·exact absurd hlp a
 ·omega
 ·exact a
theorem may_open (h:mayB N T P K=true) (hl:X.length=T.length):mayB (O.length:Nat) X (ptsOf P O) K=true:=by
 unfold mayB at h ⊢;rw [Bool.and_eq_true,Bool.and_eq_true] at h ⊢;obtain ⟨b,c,e⟩:=h;have b:=of_decide_eq_true b;refine ⟨decide_eq_true ⟨by unfold ptsOf;rw [List.length_map],by rw [hl];exact b.2⟩,?_,e⟩;rw [List.all_eq_true] at c ⊢;intro x d;unfold ptsOf at d;obtain ⟨u,_,rfl⟩:=List.mem_map.1 d;rcases Nat.lt_or_ge u.toNat P.length with a | a
 ·rw [List.getD_eq_getElem?_getD,zG a];exact c _ (List.getElem_mem a)
 ·rw [List.getD_eq_getElem?_getD,List.getElem?_eq_none a];rfl
theorem ring_joins (r:Ringed N T v X O) (hmb:mayB N T P K=true) {i j:Nat} (hi:i<(lps X (O.length:Nat) O.length).length) (hj:j<(lps X (O.length:Nat) O.length).length) (hij:i<j)
  (hpq:((∃ x∈loA T X N v,x∈(lps X (O.length:Nat) O.length)[i])/\∃ x∈loB T X N v,x∈(lps X (O.length:Nat) O.length)[j])\/((∃ x∈loB T X N v,x∈(lps X (O.length:Nat) O.length)[i])/\∃ x∈loA T X N v,x∈(lps X (O.length:Nat) O.length)[j]))
  (hp:Round X (lps X (O.length:Nat) O.length)[i]) (hq:Round X (lps X (O.length:Nat) O.length)[j]) {t:Nat} (ht:t<(lps X (O.length:Nat) O.length)[j].length)
  (he:O.getD (lps X (O.length:Nat) O.length)[j][t] 0=O.getD ((lps X (O.length:Nat) O.length)[i][0]'hp.1) 0) :
  (∀ c,JoinC (O.length:Nat) X (ptsOf P O) K (i:Int) (j:Int) (t:Int) c->c=0) /\
  ∀ b u,JoinMade b (O.length:Nat) X (ptsOf P O) K (i:Int) (j:Int) (t:Int) u->∃ e pv d,u=.agg #[.int .i64 N,e,pv,d]/\Sl 3 RTri b b.heap.size e T/\Sl 3 RTri b b.heap.size pv P/\Sl 1 RInt b b.heap.size d K:=by
 have w:=r.star.surf;have D:=w.n0;have E:=r.star.cut;obtain ⟨l,m,y⟩:sewT (labP (joinP (lps X (O.length:Nat) O.length)[i] (lps X (O.length:Nat) O.length)[j] (t:Int))) X=T/\rnk (labP (joinP (lps X (O.length:Nat) O.length)[i] (lps X (O.length:Nat) O.length)[j] (t:Int))) O.length=N.toNat/\sewOf (labP (joinP (lps X (O.length:Nat) O.length)[i] (lps X (O.length:Nat) O.length)[j] (t:Int))) O.length=O:=r.back hp hq hpq ht he;have g:=(r.turns hp hq hpq).1;have n:((N.toNat:Nat):Int)=N:=Int.toNat_of_nonneg D;have s:=may_open (O:=O) hmb r.star.numb.len;have o:((O.length:Nat):Int).toNat=O.length:=Int.toNat_natCast _;constructor
 ·intro c h;unfold JoinC at h;simp only [o] at h;rcases h with ⟨a,_⟩ | ⟨_,a,_⟩ | ⟨_,_,a,_⟩ | ⟨_,_,H,I,F,G,z,A,h⟩
  ·exact absurd E a
  ·rw [s] at a;cases a
  ·exfalso;omega
  ·obtain rfl:=Int.ofNat.inj z;obtain rfl:=Int.ofNat.inj A;rcases h with ⟨a,_⟩ | ⟨_,a,_⟩ | ⟨_,_,⟨a,_⟩ | ⟨_,a⟩⟩
   ·omega
   ·exact absurd g a
   ·rw [l,m,n] at a;exact absurd w a
   ·exact a
 ·rintro b u ⟨e,pv,d,rfl,a,f,p⟩;have B:(lps X (O.length:Nat) O.length).getD i []=(lps X (O.length:Nat) O.length)[i]:=by rw [List.getD_eq_getElem?_getD,zG hi];rfl
  have C:(lps X (O.length:Nat) O.length).getD j []=(lps X (O.length:Nat) O.length)[j]:=by rw [List.getD_eq_getElem?_getD,zG hj];rfl
  simp only [o,Int.toNat_natCast,B,C,l,m,y] at a f p ⊢;refine ⟨e,pv,d,by rw [n],a,?_,p⟩;have q:P.length=N.toNat:=by
   unfold mayB at hmb;rw [Bool.and_eq_true] at hmb;have:=of_decide_eq_true hmb.1;omega
  rw [<- q,jpt_back fun k hk=>r.star.numb.old k (by omega)] at f;exact f
theorem ring_pack (r:Ringed N T v X O) (hmb:mayB N T P K=true):∃ (i j:Nat) (p q:List Nat),(lps X (O.length:Nat) O.length)[i]? = some p/\(lps X (O.length:Nat) O.length)[j]? = some q/\i<j /\
  ((List.range (lps X (O.length:Nat) O.length).length).filter fun k=>ofRing (linkAt T N v) O ((lps X (O.length:Nat) O.length).getD k []))=[i,j]/\0<p.length/\(∃ t,t<q.length/\O.getD (q.getD t 0) 0=O.getD (p.getD 0 0) 0) /\
  ∀ t,t<q.length->O.getD (q.getD t 0) 0=O.getD (p.getD 0 0) 0->(∀ c,JoinC (O.length:Nat) X (ptsOf P O) K (i:Int) (j:Int) (t:Int) c->c=0) /\
   ∀ wz u,JoinMade wz (O.length:Nat) X (ptsOf P O) K (i:Int) (j:Int) (t:Int) u->∃ sv pv kv,u=.agg #[.int .i64 N,sv,pv,kv]/\Sl 3 RTri wz wz.heap.size sv T/\Sl 3 RTri wz wz.heap.size pv P/\Sl 1 RInt wz wz.heap.size kv K:=by
 obtain ⟨i,j,l,m,f,h,b,n,g⟩:=r.two;have e:∀ {L:List Nat} {t:Nat} (a:t<L.length),L.getD t 0=L[t]:=fun {L t} a=>by rw [List.getD_eq_getElem?_getD,zG a];rfl
 refine ⟨i,j,_,_,zG l,zG m,f,h,b.1,?_,fun t a d=>?_⟩
 ·obtain ⟨_,t,a,d⟩:=r.turns b n g;exact ⟨t,a,by rw [e a,e b.1];exact d⟩
 ·rw [e a,e b.1] at d;exact ring_joins r hmb l m f g b n a d
end
end Go.Proofs.YtpbdcppaiafbgaaGreat
