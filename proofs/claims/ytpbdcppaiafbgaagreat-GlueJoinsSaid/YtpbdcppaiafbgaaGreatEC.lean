/- Walk: certify.Is. -/
import Derived.Test.YtpbdcppaiafbgaaGreatBM
set_option maxRecDepth 100000
set_option maxHeartbeats 8000000
namespace Go.Proofs.YtpbdcppaiafbgaaGreat
open Go Go.RowKit Go.Words Go.Mesh
theorem Zim(v:Value)(N:Int)(T:List T3)(w:World){B:Nat}(hB0:B<=w.heap.size)(h:Sl 3 RTri w B v T)(hN:I64 N) :
  Calls Tryz.prog 29 #[.agg #[.int .i64 N,v]] w fun e w'=>Ztg e (Surf N T)/\Below w.heap.size w w':=by
 obtain⟨A,g,rfl,o⟩:=h.form;have a:=(zr w.heap.size w).alloc zl (.cells #[.int .i64 N,.slice A T.length g] 24);have m:=Ztt _ N T (w.alloc (.cells #[.int .i64 N,.slice A T.length g] 24)) (B:=B) (by simp;omega) (h.below zaaq (a.mono hB0)) hN;have p:=a.size;obtain⟨s,j,i⟩:=zz3 h m a;clear h m a;go_enter Tryz.func29,Tryz.ntmps29;go_wp2_with fail;refine j.out.mono ?_;rintro e z ⟨⟨k,x,y,rfl,q,d,n⟩,l⟩;have b:=zapq i.out l p;have d:k=0↔Surf N T:=d.trans cert_iff;have f:=zz d;clear d;by_cases c:k=0
 ·subst c;obtain⟨rfl,rfl⟩:=n rfl;have u:∀W,Sem.run Tryz.prog (Op.equalIn 10000 48 (.agg #[.int .i64 0,.int .i64 0,.int .i64 0]) (.agg #[.int .i64 0,.int .i64 0,.int .i64 0])) W=.ok true W:=fun _=>by kernel_rfl
  have t:∀W,Sem.run Tryz.prog (eqGuard BinOp.eql 48 (Operand.tmp 4) (Operand.tmp 5) (.agg #[.int .i64 0,.int .i64 0,.int .i64 0]) (.agg #[.int .i64 0,.int .i64 0,.int .i64 0])) W=.ok () W:=fun _=>by kernel_rfl
  go_wp2_with fail;go_ret;exact⟨⟨true,rfl,⟨fun _=>f.out.1 (by simp),fun _=>rfl⟩⟩,b⟩
 ·have r:(k==0)=false:=by rw[beq_eq_false_iff_ne];exact c
  go_wp2_with fail;all_goals first|(go_ret;exact⟨⟨false,rfl,⟨fun h9=>(by cases h9),fun h9=>absurd (f.out.2 h9) c⟩⟩,b⟩)|(exfalso;simp_all)
