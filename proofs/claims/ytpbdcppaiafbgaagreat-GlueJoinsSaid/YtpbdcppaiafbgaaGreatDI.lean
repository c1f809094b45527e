/- A row that has an element has an address. Walks. -/
import Derived.Test.YtpbdcppaiafbgaaGreatTS
import Derived.Test.YtpbdcppaiafbgaaGreatDX
import Derived.RangeFuncBox
import Derived.Laws.CopyOwn
import Derived.Shelf.Bits.Mul64
namespace Go.Proofs.YtpbdcppaiafbgaaGreat
open Go Go.RowKit Go.Words Go.Mesh
theorem Zju{w:World}{base:Nat}{e:TypeId}{size n cap:Nat}{A:Option Addr}{xs:List Value}(h:w.ownsRow base e size (.slice A n cap) n xs)(hn:0<n):∃g,A=some ⟨g,0,none⟩:=by
 obtain⟨m,rfl⟩:∃m,n=m+1:=⟨n-1,by omega⟩;obtain⟨c,b,a⟩:=ownsRow_succ h;injection a with a;exact⟨_,a⟩
end Go.Proofs.YtpbdcppaiafbgaaGreat
namespace Go.Mesh
end Go.Mesh
namespace Go.Proofs.YtpbdcppaiafbgaaGreat
open Go Go.RowKit Go.Words Go.Mesh
end Go.Proofs.YtpbdcppaiafbgaaGreat
namespace Go.Mesh
end Go.Mesh
namespace Go.Proofs.YtpbdcppaiafbgaaGreat
open Go Go.RowKit Go.Words Go.Mesh
theorem Za3{l:List Int}{i:Nat}{x:Int}(h:l[i]? = some x):(ivals l)[i]? = some (.int .i64 x):=by unfold ivals;rw[zJ,h];rfl
theorem Zgu(l:List Int)(i:Nat)(x:Int):(ivals l).set i (.int .i64 x)=ivals (l.set i x):=by unfold ivals;rw[List.map_set]
open Go Go.RowKit Go.Words Go.Mesh
end Go.Proofs.YtpbdcppaiafbgaaGreat
namespace Go.Mesh
section
variable {N : Int} {T : List T3} {S : List Nat} {st nr : List Int} {row : List Nat} {k i : Nat}
end
end Go.Mesh
namespace Go.Words
open Go Go.RowKit
end Go.Words
namespace Go.Proofs.YtpbdcppaiafbgaaGreat
open Go Go.RowKit Go.Words Go.Mesh
end Go.Proofs.YtpbdcppaiafbgaaGreat
namespace Go.Mesh
section
variable {N : Int} {T : List T3}
end
end Go.Mesh
namespace Go.Proofs.YtpbdcppaiafbgaaGreat
open Go Go.RowKit Go.Words Go.Mesh
theorem Ztb{w:World}{B:Nat}{tv:Value}{N:Int}{T:List T3}(h:Tab w B tv N T):Calls Tryz.prog 84 #[tv] w fun e w'=>e=.returned (.int .i64 T.length)/\w'=w:=by
 obtain⟨g,vt,b,c,m,F,rfl,a,_⟩:=h;exact Zmr a
end Go.Proofs.YtpbdcppaiafbgaaGreat
namespace Go.Mesh
end Go.Mesh
namespace Go.Proofs.YtpbdcppaiafbgaaGreat
open Go Go.RowKit Go.Words Go.Mesh
end Go.Proofs.YtpbdcppaiafbgaaGreat
namespace Go.Mesh
end Go.Mesh
namespace Go.Proofs.YtpbdcppaiafbgaaGreat
open Go Go.RowKit Go.Words Go.Mesh
