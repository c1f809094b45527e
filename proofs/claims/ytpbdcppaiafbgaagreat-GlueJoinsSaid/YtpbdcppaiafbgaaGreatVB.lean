/- The mirrored surface: plain. The law RingArounds, walked. -/
import Derived.Test.YtpbdcppaiafbgaaGreatTS
namespace Go.Mesh
section
variable {N : Int} {T : List T3}
end
end Go.Mesh
namespace Go.Proofs.YtpbdcppaiafbgaaGreat
open Go Go.RowKit Go.Words Go.Mesh
end Go.Proofs.YtpbdcppaiafbgaaGreat
namespace Go.Mesh
end Go.Mesh
namespace Go.Proofs.YtpbdcppaiafbgaaGreat
open Go Go.RowKit Go.Words Go.Mesh
theorem tab_opp{w:World}{B:Nat}{tv:Value}{N:Int}{T:List T3}(h:TabN w B tv N T)(hs:Surf N T){c:Nat}(hc:c<3*T.length):Calls Tryz.prog 27 #[tv,.int .i64 (c:Int)] w fun e w'=>e=.returned (.int .i64 (oi (opp T c)))/\Below w.heap.size w w':=by
 have:=Zfx (h.tab (fun h9=>by rw[h9]at hc;simp at hc)) hs (c:Int);rw[Zk9 hc]at this;exact this
open Go Go.RowKit Go.Words Go.Mesh
theorem zbeq{w:World}{base:Nat}{e:TypeId}{size n cap:Nat}{A:Option Addr}{xs:List Value}(h:w.ownsRow base e size (.slice A n cap) n xs)(hn:0<n):∃g,A=some ⟨g,0,none⟩:=by
 obtain⟨m,rfl⟩:∃m,n=m+1:=⟨n-1,by omega⟩;obtain⟨c,b,a⟩:=ownsRow_succ h;injection a with a;exact⟨_,a⟩
open Go Go.RowKit Go.Words Go.Mesh
open Go Go.RowKit Go.Words Go.Mesh
theorem Zoi:(Tryz.prog.info? 57).map (fun i=>(i.zero,i.size,i.bytes))=some (some (.agg #[.int .i64 0,.int .i64 0,.int .i64 0]),3,24):=by kernel_rfl
theorem Zds:∀(T:List T3) (t:T3),Zan (T++[t])=Zan T++[.int .i64 t.1,.int .i64 t.2.1,.int .i64 t.2.2]
 | [],_=>rfl
 | x::T,t=>by simp only[List.cons_append,Zan,Zds T t]
theorem Zdh{w:World}{base:Nat}{v:Value}{T:List T3}(h:w.ownsRow base 57 3 v T.length (Zan T)):Sl 3 RTri w w.heap.size v T :=
 Sl.of_own h fun i a hi=>(Zno T i a hi).2
