/- Border loops: plain laws. -/
import Derived.Test.YtpbdcppaiafbgaaGreatBM
namespace Go.Mesh
section
variable {N : Int} {T : List T3}
theorem BLoop.next{v:Int}{L:List Nat}(hL:BLoop T N v L){c d:Nat}(hc:c∈L)(hd:aftV T (c:Int)=some (d:Int)):d∈L:=by
 obtain⟨i,hi,rfl⟩:=zE hc;rcases zK (i+1) L.length with b|b
 ·have:=hL.step i _ _ (zG hi) (zG b);rw[hd]at this;have a:d=L[i+1]:=by have:=zO this;omega
  rw[a];exact zM _
 ·have e:i=L.length-1:=by omega
  subst e;have:=hL.last _ (zG hi);rw[hd]at this;have a:d=v.toNat:=by have:=zO this;omega
  rw[a];exact List.mem_of_getElem? hL.head
theorem BLoop.closed{v:Int}{L:List Nat}(hL:BLoop T N v L)(h:Surf N T)(P:Nat->Prop)(hP:∀c d:Nat,P c->aftV T (c:Int)=some (d:Int)->P d){c:Nat}(hc:c∈L)(h0:P c):∀x∈L,P x:=by
 obtain⟨j,p,rfl⟩:=zE hc;have f:∀k i (hi:i+k<L.length),P (L[i]'(by omega))->P L[i+k]:=by
  intro k
  induction k with
  | zero=>intro i hi a;exact a
  | succ k ih =>
   intro i hi a;have:=ih i (by omega) a;exact hP _ _ this (hL.step (i+k) _ _ (zG (by omega)) (zG hi))
 have o:P (L[L.length-1]'(by omega)):=by
  have:=f (L.length-1-j) j (by omega) h0;have e:j+(L.length-1-j)=L.length-1:=by omega
  simpa only[e]using this
 have b:=hL.last _ (zG (by omega));have l:=(h.aftV_rng b).2;have m:P v.toNat:=hP _ _ o (by rw[b,Int.toNat_of_nonneg l.1]);have g:P (L[0]'hL.ne):=by
  have:=hL.head;rw[zG hL.ne]at this;rw[zO this];exact m
 intro x n;obtain⟨i,hi,rfl⟩:=zE n;have:=f i 0 (by omega) g;simpa using this
theorem Surf.loop_mem_on(h:Surf N T){v:Int}{x:Nat}(hx:x∈Zah T N v):(∃a,aftV T v=some a)/\∃b,aftV T (x:Int)=some b:=by
 cases e:aftV T v with
 | none=>rw[Zcl e]at hx;cases hx
 | some a =>
  have f:=h.loop_is e;refine⟨⟨a,rfl⟩,?_⟩;have g:=(h.aftV_rng e).1;exact f.closed h (fun c=>∃b,aftV T (c:Int)=some b) (fun c d _ hd=>h.aftV_on hd) (List.mem_of_getElem? f.head) ⟨a,by rw[Int.toNat_of_nonneg g.1,e]⟩ x hx
theorem Surf.loop_same(h:Surf N T){v:Int}{x:Nat}(hx:x∈Zah T N v)(y:Nat):y∈Zah T N (x:Int)↔y∈Zah T N v:=by
 obtain⟨⟨a,i⟩,b,j⟩:=h.loop_mem_on hx;have g:=h.loop_is i;have f:=h.loop_is j;have e:x∈Zah T N (x:Int):=by have:=List.mem_of_getElem? f.head;simpa using this
 exact⟨fun hy=>f.closed h (· ∈ Zah T N v) (fun c d hc hd=>g.next hc hd) e hx y hy,fun hy=>g.closed h (· ∈ Zah T N (x:Int)) (fun c d hc hd=>f.next hc hd) hx e y hy⟩
theorem Surf.loop_self(h:Surf N T){x:Nat}{b:Int}(hb:aftV T (x:Int)=some b):x∈Zah T N (x:Int):=by
 have:=List.mem_of_getElem? (h.loop_is hb).head;simpa using this
theorem Surf.loop_symm(h:Surf N T){x u:Nat}(hx:x∈Zah T N (u:Int)):u∈Zah T N (x:Int):=by
 obtain⟨⟨a,b⟩,_⟩:=h.loop_mem_on hx;exact(h.loop_same hx u).2 (h.loop_self b)
theorem Zs0(T:List T3)(N:Int)(k:Nat):lps T N (k+1)=lps T N k++(if(k∈(lps T N k).flatten)\/Zah T N k=[]then[]else[Zah T N k]):=rfl
theorem Surf.lps_mem(h:Surf N T)(x:Nat):∀k,x∈(lps T N k).flatten↔∃u:Nat,u<k/\x∈Zah T N (u:Int)
 | 0=>by simp[lps]
 | k+1=>by
  rw[Zs0,List.flatten_append,zP,h.lps_mem x k];have g:=h.lps_mem k k;constructor
  ·rintro(⟨u,i,a⟩|a)
   ·exact⟨u,by omega,a⟩
   ·split at a
    ·cases a
    ·exact⟨k,by omega,by simpa using a⟩
  ·rintro⟨u,i,a⟩;rcases zK u k with d|d
   ·exact .inl ⟨u,d,a⟩
   ·obtain rfl:u=k:=by omega
    by_cases b:u∈(lps T N u).flatten
    ·obtain⟨j,e,f⟩:=g.1 b;exact .inl ⟨j,e,(h.loop_same f x).1 a⟩
    ·right;rw[if_neg]
     ·simpa using a
     ·rintro(c|c)
      ·exact b c
      ·rw[c]at a;cases a
theorem Surf.lps_nodup(h:Surf N T):∀k,(lps T N k).flatten.Nodup
 | 0=>by simp[lps]
 | k+1=>by
  rw[Zs0,List.flatten_append,List.nodup_append];refine⟨h.lps_nodup k,?_,?_⟩
  ·split
   ·simp
   ·rename_i hn;cases c:aftV T (k:Int)with
    | none=>exact absurd (.inr (Zcl c)) hn
    | some a=>simpa using(h.loop_is c).nodup
  ·intro x j y b e;subst e
   split at b
   ·cases b
   ·rename_i hn;obtain⟨u,i,d⟩:=(h.lps_mem x k).1 j;have f:x∈Zah T N (k:Int):=by simpa using b
    have g:k∈Zah T N (x:Int):=h.loop_symm f;exact hn (.inl ((h.lps_mem k k).2 ⟨u,i,(h.loop_same d k).1 g⟩))
theorem Surf.lps_all(h:Surf N T)(x:Nat):x∈(lps T N N.toNat).flatten↔∃b,aftV T (x:Int)=some b:=by
 rw[h.lps_mem];constructor
 ·rintro⟨u,_,c⟩;exact(h.loop_mem_on c).2
 ·rintro⟨b,a⟩;have:=(h.aftV_rng a).1;exact⟨x,by omega,h.loop_self a⟩
theorem Surf.two_ne(h:Surf N T){v a:Int}(ha:aftV T v=some a):a≠v/\aftV T a≠some v:=by
 obtain⟨c,g,i,rfl,rfl⟩:=h.aftV_iff.1 ha;refine⟨h.loop3 g,fun hb=>?_⟩;obtain⟨d,b,j,e,f⟩:=h.aftV_iff.1 hb;have:opp T c=some d:=h.opp_iff.2 ⟨b,f,e⟩;rw[i]at this;cases this
theorem Surf.loop_three(h:Surf N T){v a:Int}(ha:aftV T v=some a):3<=(Zah T N v).length:=by
 have c:=h.loop_is ha;have d:=c.ne;have m:=(h.aftV_rng ha).1;obtain⟨k,l⟩:=h.two_ne ha;have j:(((Zah T N v)[0]'d:Nat):Int)=v:=by
  have:=c.head;rw[zG d]at this;have:=zO this;omega
 rcases zK 2 (Zah T N v).length with f|f
 ·exact f
 ·exfalso;rcases zK 1 (Zah T N v).length with g|g
  ·have i:=c.step 0 _ _ (zG d) (zG g);rw[j,ha]at i;have b:=c.last _ (zG (by omega));have e:(Zah T N v)[(Zah T N v).length-1]'(by omega)=(Zah T N v)[1]:=by congr 1;omega
   rw[e,<- zO i]at b;exact l b
  ·have b:=c.last _ (zG (by omega));have e:(Zah T N v)[(Zah T N v).length-1]'(by omega)=(Zah T N v)[0]:=by congr 1;omega
   rw[e,j,ha]at b;exact k (zO b)
theorem Surf.lps_each(h:Surf N T):∀k,∀L∈lps T N k,3<=L.length/\∃u:Nat,u<k/\L=Zah T N (u:Int)/\∃a,aftV T (u:Int)=some a
 | 0,L,b=>by simp[lps]at b
 | k+1,L,b=>by
  rw[Zs0,zP]at b;rcases b with b|b
  ·obtain⟨d,u,f,e⟩:=h.lps_each k L b;exact⟨d,u,by omega,e⟩
  ·split at b
   ·cases b
   ·rename_i hn;obtain rfl:L=Zah T N (k:Int):=by simpa using b
    cases c:aftV T (k:Int)with
    | none=>exact absurd (.inr (Zcl c)) hn
    | some a=>exact⟨h.loop_three c,k,by omega,rfl,a,c⟩
theorem Surf.lps_lt(h:Surf N T){L:List Nat}{k:Nat}(hL:L∈lps T N k){x:Nat}(hx:x∈L):(x:Int)<N:=by
 obtain⟨_,u,_,rfl,a,b⟩:=h.lps_each k L hL;exact(h.loop_is b).lt x hx
theorem Surf.aft_dom(h:Surf N T)(x:Int):x∈(bedges T).map (·.2)↔∃b,aftV T x=some b:=by
 rw[zB];constructor
 ·rintro⟨e,g,rfl⟩;obtain⟨c,a,d,rfl⟩:=mem_bedges.1 g;exact⟨_,h.aftV_iff.2 ⟨c,a,d,rfl,rfl⟩⟩
 ·rintro⟨b,f⟩;obtain⟨c,a,d,rfl,rfl⟩:=h.aftV_iff.1 f;exact⟨_,mem_bedges.2 ⟨c,a,d,rfl⟩,rfl⟩
theorem Surf.lps_total(h:Surf N T):(lps T N N.toNat).flatten.length=(bedges T).length:=by
 have f:(((lps T N N.toNat).flatten.map fun n:Nat=>(n:Int))).Nodup:=zbiq (h.lps_nodup _) fun a _ b _ e=>by have:(a:Int)=(b:Int):=e;omega
 have g:=(List.perm_ext_iff_of_nodup f h.bedges_nodup).2 fun x=>by
  rw[h.aft_dom,zB];constructor
  ·rintro⟨n,i,rfl⟩;exact(h.lps_all n).1 i
  ·rintro⟨b,c⟩;have d:=(h.aftV_rng c).1;exact⟨x.toNat,(h.lps_all _).2 ⟨b,by rw[Int.toNat_of_nonneg d.1];exact c⟩,Int.toNat_of_nonneg d.1⟩
 have:=g.length_eq;rw[zL,zL]at this;exact this
theorem Surf.lps_least(h:Surf N T)(k:Nat):lps T N k=((List.range k).filter fun v:Nat=>decide (Zah T N (v:Int)≠[]/\∀x∈Zah T N (v:Int),v<=x)).map fun v:Nat=>Zah T N (v:Int):=by
 induction k with
 | zero=>rfl
 | succ k ih =>
  rw[Zs0,List.range_succ,List.filter_append,List.map_append,<- ih]
  congr 1
  have a:(k∈(lps T N k).flatten\/Zah T N k=[])↔¬(Zah T N (k:Int)≠[]/\∀x∈Zah T N (k:Int),k<=x):=by
   rw[h.lps_mem];constructor
   ·rintro(⟨u,j,i⟩|g) ⟨b,d⟩
    ·have:=d u (h.loop_symm i);omega
    ·exact b g
   ·intro g;by_cases b:Zah T N (k:Int)=[]
    ·exact .inr b
    ·left;apply Classical.byContradiction;intro d;exact g ⟨b,fun x hx=>by
      rcases zK x k with e|e
      ·exact absurd ⟨x,e,h.loop_symm hx⟩ d
      ·exact e⟩
  by_cases c:Zah T N (k:Int)≠[]/\∀x∈Zah T N (k:Int),k<=x
  ·rw[if_neg (fun h9=>a.1 h9 c)];have f:=zY c;rw[List.filter_cons,f];rfl
  ·rw[if_pos (a.2 c)];have f:=zN c;rw[List.filter_cons,f];rfl
end
end Go.Mesh
namespace Go.Proofs.YtpbdcppaiafbgaaGreat
open Go Go.RowKit Go.Words Go.Mesh
theorem zbfq{w:World}{base g n cap i:Nat}{e:TypeId}{u:Value}{xs:List Value}(h:w.ownsRow base e 1 (.slice (some ⟨g,0,none⟩) n cap) n xs)(hi:xs[i]? = some u):w.cell? ⟨g,i,none⟩=some u/\base<=g/\g<w.heap.size:=by
 rcases h.2 with⟨a,_⟩|⟨l,f,b,a,j,d,_,_,_,k⟩
 ·cases a
 ·injection a with a;injection a with a;injection a with a;subst a;refine⟨?_,j,(Array.getElem?_eq_some_iff.1 d).1⟩;have c:Bk w g e b.toList:=by unfold Bk;rw[d]
  rw[c.cell i];rw[<- k,List.getElem?_take]at hi
  split at hi
  ·exact hi
  ·cases hi
theorem OwnRows.at_{w:World}{base:Nat}{A:Option Addr}{n cap:Nat}{Ls:List (List Nat)}(h:OwnRows w base (.slice A n cap) Ls)(hn:Ls.length=n){i:Nat}(hi:i<Ls.length) :
  ∃g v,A=some ⟨g,0,none⟩/\w.cell? ⟨g,i,none⟩=some v/\base<=g/\g<w.heap.size/\w.ownsRow base 3 1 v Ls[i].length (nvals Ls[i]):=by
 obtain⟨c,k,a,j⟩:=h;subst hn;obtain⟨g,rfl⟩:=zbeq a (by omega);have b:c[i]? = some (c[i]'(by omega)):=zG (by omega);obtain⟨d,e,f⟩:=zbfq a b;exact⟨g,_,rfl,d,e,f,j i _ _ b (zG hi)⟩
theorem Zk1{l:List Nat}{i:Nat}(h:i<l.length):(nvals l)[i]? = some (.int .i64 (l[i]:Int)):=by unfold nvals;simp[h]
