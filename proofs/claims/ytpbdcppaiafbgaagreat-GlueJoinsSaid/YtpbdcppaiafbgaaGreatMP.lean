/- Around a vertex: plain. The corners around a vertex of a. -/
import Derived.Test.YtpbdcppaiafbgaaGreatMesh
namespace Go.Mesh
theorem vt_out{T:List T3}{c:Nat}(h:3*T.length<=c):vt T c=0:=by
 unfold vt;rw[List.getD_eq_getElem?_getD,List.getElem?_eq_none (by omega)];show vx (0,0,0) (c%3)=0;have:c%3=0\/c%3=1\/c%3=2:=by omega
 rcases this with e|e|e<;>rw[e]<;>rfl
theorem Surf.opp_lt{N:Int}{T:List T3}(h:Surf N T){c d:Nat}(ho:opp T c=some d):c<3*T.length:=by
 rcases Nat.lt_or_ge c (3*T.length)with e|e
 ·exact e
 ·exfalso;obtain⟨f,a,b⟩:=h.opp_iff.1 ho;rw[vt_out (c:=pv c) (by unfold pv;omega)]at a;rw[vt_out (c:=nx c) (by unfold nx;omega)]at b;exact h.loop3 f (a.trans b.symm)
theorem Surf.bef_lt{N:Int}{T:List T3}(h:Surf N T){c d:Nat}(hb:bef T c=some d):c<3*T.length:=by
 unfold bef at hb;obtain⟨o,a,_⟩:=Option.map_eq_some_iff.1 hb;have:=h.opp_lt a;unfold pv at this;omega
theorem Surf.aft_lt{N:Int}{T:List T3}(h:Surf N T){c d:Nat}(hb:aft T c=some d):c<3*T.length:=by
 unfold aft at hb;obtain⟨o,a,_⟩:=Option.map_eq_some_iff.1 hb;have:=h.opp_lt a;unfold nx at this;omega
theorem Surf.bef_inj{N:Int}{T:List T3}(h:Surf N T):∀c d x,bef T c=some x->bef T d=some x->c=d:=by
 intro c d x b e;have f:=h.bef_aft (h.bef_lt b) b;have a:=h.bef_aft (h.bef_lt e) e;rw[f]at a;exact Option.some.inj a
theorem Surf.aft_inj{N:Int}{T:List T3}(h:Surf N T):∀c d x,aft T c=some x->aft T d=some x->c=d:=by
 intro c d x b e;have f:=h.aft_bef (h.aft_lt b) b;have a:=h.aft_bef (h.aft_lt e) e;rw[f]at a;exact Option.some.inj a
theorem Surf.back{N:Int}{T:List T3}(h:Surf N T){b:Nat}(hb:b<3*T.length):IsRun (bef T) b (3*T.length) (runF (bef T) b (3*T.length) b) :=
 run_is h.bef_inj (fun _ _ hd=>(h.bef_iff.1 hd).1) hb
theorem Surf.forth{N:Int}{T:List T3}(h:Surf N T){b:Nat}(hb:b<3*T.length):IsRun (aft T) b (3*T.length) (runF (aft T) b (3*T.length) b) :=
 run_is h.aft_inj (fun _ _ hd=>(h.aft_iff.1 hd).1) hb
def begins(T:List T3)(b:Nat):Nat×Bool :=
 let l:=runF (bef T) b (3*T.length) b
 let x:=l.getLastD b
 if bef T x=none then(x,true)else(b,false)
section
variable {N : Int} {T : List T3}
theorem Surf.closed_all(h:Surf N T){v:Int}(h0:0<=v)(h1:v<N)(P:Nat->Prop){b:Nat}(hb:b<3*T.length)(hbv:vt T b=v)(hP:P b)
  (ha:∀c d,c<3*T.length->vt T c=v->P c->aft T c=some d->P d) (hbf:∀c d,c<3*T.length->vt T c=v->P c->bef T c=some d->P d) :
  ∀c,c<3*T.length->vt T c=v->P c :=
 h.fan v h0 h1 P ⟨b,hb,hbv,hP⟩ fun c d hc hcv hd hdv hPc hs=>by
  rcases h.share_iff hc hd (hcv.trans hdv.symm) hs with rfl|e|e
  ·exact hPc
  ·exact ha c d hc hcv hPc e
  ·exact hbf c d hc hcv hPc e
theorem IsRun.all{f:Nat->Option Nat}{b n:Nat}{l:List Nat}(h:IsRun f b n l)(P:Nat->Prop)(hb:P b)(hs:∀c d,c<n->P c->f c=some d->P d):∀c∈l,P c:=by
 have:∀i (hi:i<l.length),P l[i]:=by
  intro i
  induction i with
  | zero=>intro hi;rw[h.head];exact hb
  | succ i ih=>intro hi;exact hs _ _ (h.lt _ (List.getElem_mem _)) (ih (by omega)) (h.steps i hi)
 intro c a;obtain⟨i,hi,rfl⟩:=List.getElem_of_mem a;exact this i hi
theorem IsRun.next_mem{f:Nat->Option Nat}{b n:Nat}{l:List Nat}(h:IsRun f b n l){c d:Nat}(hc:c∈l)(hf:f c=some d):d∈l:=by
 obtain⟨i,hi,rfl⟩:=List.getElem_of_mem hc;rcases Nat.lt_or_ge (i+1) l.length with g|g
 ·have:=h.steps i g;rw[hf]at this;rw[Option.some.inj this];exact List.getElem_mem _
 ·have e:l[i]=l[l.length-1]'(by omega):=by congr 1;omega
  rw[e]at hf;rcases h.last with a|a
  ·rw[a]at hf;cases hf
  ·rw[a]at hf;rw[<- Option.some.inj hf,<- h.head];exact List.getElem_mem _
theorem Surf.aft_vt(h:Surf N T){c d:Nat}(ha:aft T c=some d):vt T d=vt T c:=(h.aft_iff.1 ha).2.1
theorem Surf.bef_vt(h:Surf N T){c d:Nat}(ha:bef T c=some d):vt T d=vt T c:=(h.bef_iff.1 ha).2.1
structure Ring (T : List T3) (v : Int) (l : List Nat) (inner : Bool) : Prop where
 run:∃b,IsRun (aft T) b (3*T.length) l
 mem:∀c,c∈l↔c<3*T.length/\vt T c=v
 head:∀h:0<l.length,(bef T l[0]=none↔inner=false)
 last:∀h:0<l.length,(aft T (l[l.length-1]'(by omega))=none↔inner=false)
 turn:∀h:0<l.length,inner=true->aft T (l[l.length-1]'(by omega))=some l[0]
theorem Surf.ring(h:Surf N T){v:Int}(h0:0<=v)(h1:v<N){b:Nat}(hb:Zcy T v=some b) :
  IsRun (aft T) (begins T b).1 (3*T.length) (runF (aft T) (begins T b).1 (3*T.length) (begins T b).1)/\Ring T v (runF (aft T) (begins T b).1 (3*T.length) (begins T b).1) (!(begins T b).2) /\
  ((begins T b).2=false->(begins T b).1=b):=by
 obtain⟨_,G,C,H⟩:=(zamq _ _ _ _).1 hb;have o:b<3*T.length:=by omega
 have q:vt T b=v:=by simpa using C
 have a:=h.back o;have t:=a.all (fun c=>vt T c=v) q fun c d _ f j=>(h.bef_vt j).trans f
 unfold begins;generalize runF (bef T) b (3*T.length) b=m at *;have E:m.getLastD b=m[m.length-1]'(by have:=a.ne;omega):=by
  rw[List.getLastD_eq_getLast?,List.getLast?_eq_getElem?,List.getElem?_eq_getElem (by have:=a.ne;omega)];rfl
 have z:m.getLastD b∈m:=by rw[E];exact List.getElem_mem _
 simp only[]
 split
 ·rename_i hnone;generalize m.getLastD b=x at *;have s:=a.lt x z;have A:=t x z;have e:=h.forth s;generalize runF (aft T) x (3*T.length) x=l at *;have n:=e.all (fun c=>vt T c=v) A fun c d _ f j=>(h.aft_vt j).trans f
  have F:x∈l:=by rw[<- e.head];exact List.getElem_mem _
  have p:=h.closed_all h0 h1 (fun c=>c∈l) s A F (fun c d _ _ f j=>e.next_mem f j) (fun c d hc1 hc2 f j=>by
   obtain⟨i,hi,rfl⟩:=List.getElem_of_mem f;cases i with
   | zero=>rw[e.head,hnone]at j;cases j
   | succ i =>
    have g:=h.aft_bef (e.lt _ (List.getElem_mem (by omega))) (e.steps i hi);rw[g]at j;rw[<- Option.some.inj j];exact List.getElem_mem _)
  have k:aft T (l[l.length-1]'(by have:=e.ne;omega))=none:=by
   rcases e.last with g|g
   ·exact g
   ·have:=h.aft_bef (e.lt _ (List.getElem_mem (by have:=e.ne;omega))) g;rw[hnone]at this;cases this
  refine⟨e,⟨⟨x,e⟩,fun c=>⟨fun f=>⟨e.lt c f,n c f⟩,fun f=>p c f.1 f.2⟩,fun g=>?_,fun g=>?_,fun g h8=>by cases h8⟩,fun g=>by cases g⟩
  ·rw[e.head];simp[hnone]
  ·simp[k]
 ·rename_i hsome;have y:bef T (m[m.length-1]'(by have:=a.ne;omega))=some b:=by
   rcases a.last with g|g
   ·rw[E]at hsome;exact absurd g hsome
   ·exact g
  have B:∀c∈m,∃d,aft T c=some d:=by
   intro c f;obtain⟨i,hi,rfl⟩:=List.getElem_of_mem f;cases i with
   | zero=>exact⟨_,by rw[a.head];exact h.bef_aft (a.lt _ (List.getElem_mem _)) y⟩
   | succ i=>exact⟨_,h.bef_aft (a.lt _ (List.getElem_mem (by omega))) (a.steps i hi)⟩
  have D:b∈m:=by
   have:m[0]'a.ne∈m:=List.getElem_mem _;rw[a.head]at this;exact this
  have u:=h.closed_all h0 h1 (fun c=>c∈m) o q D (fun c d hc1 hc2 f j=>by
   obtain⟨i,hi,rfl⟩:=List.getElem_of_mem f;cases i with
   | zero =>
    have g:=h.bef_aft (a.lt _ (List.getElem_mem (by have:=a.ne;omega))) y;rw[a.head,g]at j;rw[<- Option.some.inj j];exact List.getElem_mem _
   | succ i =>
    have g:=h.bef_aft (a.lt _ (List.getElem_mem (by omega))) (a.steps i hi);rw[g]at j;rw[<- Option.some.inj j];exact List.getElem_mem _) (fun c d _ _ f j=>a.next_mem f j)
  have e:=h.forth o;generalize runF (aft T) b (3*T.length) b=l at *;have n:=e.all (fun c=>vt T c=v) q fun c d _ f j=>(h.aft_vt j).trans f
  have r:l[l.length-1]'(by have:=e.ne;omega)∈l:=List.getElem_mem _;have k:aft T (l[l.length-1]'(by have:=e.ne;omega))=some b:=by
   rcases e.last with g|g
   ·obtain⟨d,j⟩:=B _ (u _ (e.lt _ r) (n _ r));rw[j]at g;cases g
   ·exact g
  have w:bef T b=some (l[l.length-1]'(by have:=e.ne;omega)):=h.aft_bef (e.lt _ r) k;have p:=h.closed_all h0 h1 (fun c=>c∈l) o q (by have:l[0]'e.ne∈l:=List.getElem_mem _;rw[e.head]at this;exact this) (fun c d _ _ f j=>e.next_mem f j) (fun c d hc1 hc2 f j=>by
   obtain⟨i,hi,rfl⟩:=List.getElem_of_mem f;cases i with
   | zero=>rw[e.head,w]at j;rw[<- Option.some.inj j];exact r
   | succ i =>
    have g:=h.aft_bef (e.lt _ (List.getElem_mem (by omega))) (e.steps i hi);rw[g]at j;rw[<- Option.some.inj j];exact List.getElem_mem _)
  refine⟨e,⟨⟨b,e⟩,fun c=>⟨fun f=>⟨e.lt c f,n c f⟩,fun f=>p c f.1 f.2⟩,fun g=>?_,fun g=>?_,fun g _=>by rw[k,e.head]⟩,fun _=>rfl⟩
  ·rw[e.head];simp[w]
  ·simp[k]
theorem Surf.corner_some(h:Surf N T){v:Int}(h0:0<=v)(h1:v<N):∃b,Zcy T v=some b:=by
 obtain⟨c,f,a⟩:=h.used v h0 h1;obtain⟨d,e⟩:=zbbq (p:=fun d=>vt T d==v) (n:=3*T.length) (k:=0) (c:=c) (by omega) (by omega) (by simp[a]);exact⟨d,e⟩
def Zad(T:List T3)(N:Int)(v:Int):List Nat:=if 0<=v/\v<N then(match Zcy T v with|some b=>runF (aft T) (begins T b).1 (3*T.length) (begins T b).1|none=>[])else[]
def Zae(T:List T3)(N:Int)(v:Int):Bool:=if 0<=v/\v<N then(match Zcy T v with|some b=>!(begins T b).2|none=>false)else false
theorem Surf.no_corner(h:Surf N T){v:Int}(hv:¬(0<=v/\v<N)){c:Nat}(hc:c<3*T.length):vt T c≠v:=fun e=>hv (e ▸ h.rng c hc)
theorem Surf.ring_or(h:Surf N T)(v:Int):(Zad T N v=[]/\¬(0<=v/\v<N)/\Zae T N v=false)\/(0<(Zad T N v).length/\(0<=v/\v<N)/\Ring T v (Zad T N v) (Zae T N v)):=by
 unfold Zad Zae
 split
 ·rename_i hv;obtain⟨b,a⟩:=h.corner_some hv.1 hv.2;rw[a];obtain⟨c,d,_⟩:=h.ring hv.1 hv.2 a;exact .inr ⟨c.ne,hv,d⟩
 ·rename_i hv;exact .inl ⟨rfl,hv,rfl⟩
theorem Surf.ring_mem(h:Surf N T)(v:Int)(c:Nat):c∈Zad T N v↔c<3*T.length/\vt T c=v:=by
 rcases h.ring_or v with⟨a,b,_⟩|⟨_,_,d⟩
 ·rw[a];simp only[List.not_mem_nil,false_iff];rintro⟨f,e⟩;exact h.no_corner b f e
 ·exact d.mem c
theorem Surf.ring_nodup(h:Surf N T)(v:Int):(Zad T N v).Nodup:=by
 rcases h.ring_or v with⟨a,e,_⟩|⟨_,_,c⟩
 ·rw[a];exact List.nodup_nil
 ·obtain⟨b,d⟩:=c.run;exact d.nodup
end
section
variable {N : Int} {T : List T3}
def dirc(T:List T3)(a b:Int):Option Nat:=Zau (fun c=>vt T c==a&&vt T (nx c)==b) 0 (3*T.length)
theorem Zht{α:Type}{a b:Option α}(h:∀x,a=some x↔b=some x):a=b:=by
 cases a with
 | none=>cases b with
  | none=>rfl
  | some y=>exact absurd ((h y).2 rfl) (by simp)
 | some x=>exact((h x).1 rfl).symm
theorem Surf.same_tri(h:Surf N T){c d:Nat}(hc:c<3*T.length)(hd:c/3=d/3)(hv:vt T c=vt T d):c=d:=by
 have a:=h.loop c hc;have b:=h.loop2 hc;have:d=c\/d=nx c\/d=pv c:=by unfold nx pv;omega
 rcases this with e|e|e
 ·exact e.symm
 ·subst e;exact absurd hv a
 ·subst e;exact absurd hv b
theorem zbiq{α β:Type}{f:α->β}:∀ {l:List α},l.Nodup->(∀a∈l,∀b∈l,f a=f b->a=b)->(l.map f).Nodup
 | [],_,_=>List.nodup_nil
 | x::l,h,hf=>by
  rw[List.nodup_cons]at h;rw[List.map_cons,List.nodup_cons];refine⟨fun hm=>?_,zbiq h.2 fun a ha b hb=>hf a (List.mem_cons_of_mem _ ha) b (List.mem_cons_of_mem _ hb)⟩;obtain⟨y,c,e⟩:=List.mem_map.1 hm;have:=hf y (List.mem_cons_of_mem _ c) x List.mem_cons_self e;exact h.1 (this ▸ c)
theorem Surf.ring_len(h:Surf N T)(v:Int):(Zad T N v).length<=T.length:=by
 have:=Zfw T.length ((Zad T N v).map (· / 3)) (zbiq (h.ring_nodup v) fun a ha b hb e =>
  h.same_tri ((h.ring_mem v a).1 ha).1 e (((h.ring_mem v a).1 ha).2.trans ((h.ring_mem v b).1 hb).2.symm)) fun x hx=>by
   obtain⟨y,c,rfl⟩:=List.mem_map.1 hx;have:=((h.ring_mem v y).1 c).1;omega
 simpa using this
def Zab(T:List T3)(N v:Int):List Int :=
 (Zad T N v).map (fun c=>vt T (nx c))++(match (Zad T N v).getLast? with
  | some c=>if aft T c=none then[vt T (pv c)]else[]
  | none=>[])
theorem Surf.link_inner(h:Surf N T)(v:Int):Zab T N v=(Zad T N v).map (fun c=>vt T (nx c))++(match (Zad T N v).getLast? with
  | some c=>if Zae T N v=false then[vt T (pv c)]else[]
  | none=>[]):=by
 unfold Zab
 congr 1
 rcases h.ring_or v with⟨a,e,_⟩|⟨b,f,d⟩
 ·rw[a];rfl
 ·rw[List.getLast?_eq_getElem?,List.getElem?_eq_getElem (by omega)];simp only[d.last b]
end
section
variable {N : Int} {T : List T3}
def near(T:List T3)(a b:Int):Bool:=(facing T (a,b)).isSome || (facing T (b,a)).isSome
theorem Zpe(T:List T3)(a b:Int):near T a b=near T b a:=by unfold near;rw[Bool.or_comm]
theorem Surf.ring_none(h:Surf N T){v:Int}(hv:¬(0<=v/\v<N)):Zad T N v=[]/\Zae T N v=false:=by
 rcases h.ring_or v with⟨b,a,c⟩|⟨_,a,_⟩
 ·exact⟨b,c⟩
 ·exact absurd a hv
theorem Surf.ring_in(h:Surf N T){v:Int}(hv:0<=v/\v<N):0<(Zad T N v).length/\Ring T v (Zad T N v) (Zae T N v):=by
 rcases h.ring_or v with⟨a,b,c⟩|⟨a,b,c⟩
 ·exact absurd hv b
 ·exact⟨a,c⟩
theorem Zcv(h:Surf N T){v:Int}(hv:0<=v/\v<N)(hi:Zae T N v=true):Zab T N v=(Zad T N v).map (fun c=>vt T (nx c)):=by
 rw[h.link_inner,List.getLast?_eq_getElem?,List.getElem?_eq_getElem (by have:=(h.ring_in hv).1;omega)];simp[hi]
theorem Zfd(h:Surf N T){v:Int}(hv:0<=v/\v<N)(hi:Zae T N v=false) :
  Zab T N v=(Zad T N v).map (fun c=>vt T (nx c))++[vt T (pv ((Zad T N v)[(Zad T N v).length-1]'(by have:=(h.ring_in hv).1;omega)))]:=by
 rw[h.link_inner,List.getLast?_eq_getElem?,List.getElem?_eq_getElem (by have:=(h.ring_in hv).1;omega)];simp[hi]
theorem Zdy(h:Surf N T){v:Int}(hv:0<=v/\v<N):(Zab T N v).length=(Zad T N v).length+(if Zae T N v=true then 0 else 1):=by
 cases hi:Zae T N v with
 | true=>rw[Zcv h hv hi];simp
 | false=>rw[Zfd h hv hi];simp
theorem Zia(h:Surf N T){v:Int}(hv:0<=v/\v<N){i:Nat}(hi:i<(Zad T N v).length) :
  (Zab T N v)[i]? = some (vt T (nx (Zad T N v)[i]))/\(Zab T N v)[(i+1)%(Zab T N v).length]? = some (vt T (pv (Zad T N v)[i])):=by
 obtain⟨j,k⟩:=h.ring_in hv;obtain⟨b,e⟩:=k.run;have a:=Zdy h hv;cases d:Zae T N v with
 | true =>
  rw[d]at a;simp only[if_true,Nat.add_zero]at a;rw[a,Zcv h hv d];refine⟨by simp[hi],?_⟩;rcases Nat.lt_or_ge (i+1) (Zad T N v).length with c|c
  ·rw[Nat.mod_eq_of_lt c,List.getElem?_map,List.getElem?_eq_getElem c];have:=(h.aft_iff.1 (e.steps i c)).2.2;simp[this]
  ·rw[show i+1=(Zad T N v).length by omega,Nat.mod_self,List.getElem?_map,List.getElem?_eq_getElem j];have l:=k.turn j d;have g:=(h.aft_iff.1 l).2.2;have f:(Zad T N v)[(Zad T N v).length-1]'(by omega)=(Zad T N v)[i]:=by congr 1;omega
   rw[f]at g;simp[g]
 | false =>
  rw[d]at a;simp only[Bool.false_eq_true,if_false]at a;rw[a,Nat.mod_eq_of_lt (by omega),Zfd h hv d];refine⟨by rw[List.getElem?_append_left (by simpa using hi),List.getElem?_map,List.getElem?_eq_getElem hi];rfl,?_⟩;rcases Nat.lt_or_ge (i+1) (Zad T N v).length with c|c
  ·rw[List.getElem?_append_left (by simpa using c),List.getElem?_map,List.getElem?_eq_getElem c];have:=(h.aft_iff.1 (e.steps i c)).2.2;simp[this]
  ·rw[List.getElem?_append_right (by simpa using c)];have f:(Zad T N v)[(Zad T N v).length-1]'(by omega)=(Zad T N v)[i]:=by congr 1;omega
   rw[f];simp only[List.length_map];rw[show i+1-(Zad T N v).length=0 by omega];rfl
theorem Zm6(h:Surf N T){v:Int}(hv:0<=v/\v<N)(x:Int):x∈Zab T N v↔∃c,c<3*T.length/\vt T c=v/\(x=vt T (nx c)\/x=vt T (pv c)):=by
 constructor
 ·intro d;have b:∀c∈Zad T N v,c<3*T.length/\vt T c=v:=fun c a=>(h.ring_mem v c).1 a
  cases e:Zae T N v with
  | true =>
   rw[Zcv h hv e]at d;obtain⟨c,a,rfl⟩:=List.mem_map.1 d;exact⟨c,(b c a).1,(b c a).2,.inl rfl⟩
  | false =>
   rw[Zfd h hv e]at d;rcases List.mem_append.1 d with d|d
   ·obtain⟨c,a,rfl⟩:=List.mem_map.1 d;exact⟨c,(b c a).1,(b c a).2,.inl rfl⟩
   ·have a:=b _ (List.getElem_mem (l:=Zad T N v) (n:=(Zad T N v).length-1) (by have:=(h.ring_in hv).1;omega));exact⟨_,a.1,a.2,.inr (by simpa using d)⟩
 ·rintro⟨c,a,f,d⟩;obtain⟨i,hi,rfl⟩:=List.getElem_of_mem ((h.ring_mem v c).2 ⟨a,f⟩);obtain⟨g,j⟩:=Zia h hv hi;rcases d with rfl|rfl
  ·exact List.mem_of_getElem? g
  ·exact List.mem_of_getElem? j
theorem Ziv(h:Surf N T){v:Int}(hv:0<=v/\v<N){x:Int}(hx:x∈Zab T N v):0<=x/\x<N/\x≠v:=by
 obtain⟨c,a,rfl,rfl|rfl⟩:=(Zm6 h hv x).1 hx
 ·have:=h.rng _ (Zam a);exact⟨this.1,this.2,(h.loop c a).symm⟩
 ·have:=h.rng _ (Zaj a);exact⟨this.1,this.2,(h.loop2 a).symm⟩
theorem Zcs(h:Surf N T){v:Int}(hv:0<=v/\v<N):(Zab T N v).Nodup:=by
 have d:∀c∈Zad T N v,c<3*T.length/\vt T c=v:=fun c g=>(h.ring_mem v c).1 g
 have k:((Zad T N v).map fun c=>vt T (nx c)).Nodup:=zbiq (h.ring_nodup v) fun a ha b hb e=>by
  refine Zr4 (h.once _ _ (Zaj (d a ha).1) (Zaj (d b hb).1) ?_);unfold eg;rw[Zcf,Zcf,Zfy,Zfy,(d a ha).2,(d b hb).2,e]
 cases f:Zae T N v with
 | true=>rw[Zcv h hv f];exact k
 | false =>
  rw[Zfd h hv f,List.nodup_append];refine⟨k,by simp,?_⟩;intro x p y j e;obtain⟨c,g,rfl⟩:=List.mem_map.1 p;have o:=(h.ring_in hv).1;have i:=((h.ring_in hv).2.last o).2 f;have m:=d _ (List.getElem_mem (l:=Zad T N v) (n:=(Zad T N v).length-1) (by omega));have j:y=vt T (pv ((Zad T N v)[(Zad T N v).length-1]'(by omega))):=by simpa using j
  have:=h.aft_iff.2 ⟨(d c g).1,(d c g).2.trans m.2.symm,e.trans j⟩;rw[i]at this;cases this
theorem Zpf(h:Surf N T){v:Int}(hv:0<=v/\v<N)(w:Int):near T v w=true↔w∈Zab T N v:=by
 rw[Zm6 h hv];unfold near;rw[Bool.or_eq_true,Option.isSome_iff_exists,Option.isSome_iff_exists];constructor
 ·rintro(⟨c,b⟩|⟨c,b⟩)
  ·obtain⟨d,a⟩:=h.facing_iff.1 b;unfold eg at a;injection a with a h3;exact⟨nx c,Zam d,a,.inl (by rw[Zf2];exact h3.symm)⟩
  ·obtain⟨d,a⟩:=h.facing_iff.1 b;unfold eg at a;injection a with a h3;exact⟨pv c,Zaj d,h3,.inr (by rw[Zfy];exact a.symm)⟩
 ·rintro⟨c,b,rfl,rfl|rfl⟩
  ·exact .inl ⟨pv c,h.facing_iff.2 ⟨Zaj b,by unfold eg;rw[Zcf,Zfy]⟩⟩
  ·exact .inr ⟨nx c,h.facing_iff.2 ⟨Zam b,by unfold eg;rw[Zf2,Ze2]⟩⟩
theorem near_out(h:Surf N T){v w:Int}(hn:near T v w=true):(0<=v/\v<N)/\0<=w/\w<N:=by
 unfold near at hn;rw[Bool.or_eq_true,Option.isSome_iff_exists,Option.isSome_iff_exists]at hn;rcases hn with⟨c,f⟩|⟨c,f⟩
 ·obtain⟨e,a⟩:=h.facing_iff.1 f;unfold eg at a;injection a with a h3;have b:=h.rng _ (Zam e);have d:=h.rng _ (Zaj e);rw[a]at b;rw[h3]at d;exact⟨b,d⟩
 ·obtain⟨e,a⟩:=h.facing_iff.1 f;unfold eg at a;injection a with a h3;have b:=h.rng _ (Zam e);have d:=h.rng _ (Zaj e);rw[a]at b;rw[h3]at d;exact⟨d,b⟩
def below(T:List T3)(v:Int):Nat:=(List.range (3*T.length)).countP fun c=>decide (vt T c<v)
end
theorem Zbt{α:Type}[DecidableEq α]:∀ {l m:List α},l.Nodup->l ⊆ m->l.length<=m.length
 | [],_,_,_=>Nat.zero_le _
 | a::l,m,hn,hs=>by
  have b:a∈m:=hs (List.mem_cons_self ..);have d:=Zbt (l:=l) (m:=m.erase a) (List.nodup_cons.1 hn).2 fun x hx=>by
   have c:x≠a:=fun e=>(List.nodup_cons.1 hn).1 (e ▸ hx)
   exact(List.mem_erase_of_ne c).2 (hs (List.mem_cons_of_mem _ hx))
  rw[List.length_erase_of_mem b]at d;have:=List.length_pos_of_mem b;rw[List.length_cons];omega
