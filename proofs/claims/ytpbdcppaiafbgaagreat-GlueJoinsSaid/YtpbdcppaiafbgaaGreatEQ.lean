/- Edges, triangles told apart. -/
import Derived.Test.YtpbdcppaiafbgaaGreatBM
namespace Go.Proofs.YtpbdcppaiafbgaaGreat
open Go Go.RowKit Go.Words Go.Mesh
theorem Zp9(x1 x2 x3 y1 y2 y3:Int)(w:World):Sem.run Tryz.prog (Op.equalIn 10000 57 (.agg #[.int .i64 x1,.int .i64 x2,.int .i64 x3]) (.agg #[.int .i64 y1,.int .i64 y2,.int .i64 y3])) w=.ok (decide ((x1,x2,x3)=(y1,y2,y3))) w:=by
 obtain⟨i,hi,_⟩:=info_parts Zap;have a:Tryz.prog.plainKey 3 = true:=by kernel_rfl
 have m:Tryz.prog.cellsOf 3 = 1:=by kernel_rfl
 rw[show(10000:Nat)=9999+1 from rfl,run_equalIn_array w 9999 _ _ Tryz.underlying57 hi,m,show List.range 3=[0,1,2]from rfl];have f:Sem.run Tryz.prog (part 3 #[.int .i64 x1,.int .i64 x2,.int .i64 x3] (0*1)) w=.ok (.int .i64 x1) w:=run_part_plain w a rfl;have g:Sem.run Tryz.prog (part 3 #[.int .i64 x1,.int .i64 x2,.int .i64 x3] (1*1)) w=.ok (.int .i64 x2) w:=run_part_plain w a rfl;have h:Sem.run Tryz.prog (part 3 #[.int .i64 x1,.int .i64 x2,.int .i64 x3] (2*1)) w=.ok (.int .i64 x3) w:=run_part_plain w a rfl;have j:Sem.run Tryz.prog (part 3 #[.int .i64 y1,.int .i64 y2,.int .i64 y3] (0*1)) w=.ok (.int .i64 y1) w:=run_part_plain w a rfl;have k:Sem.run Tryz.prog (part 3 #[.int .i64 y1,.int .i64 y2,.int .i64 y3] (1*1)) w=.ok (.int .i64 y2) w:=run_part_plain w a rfl;have l:Sem.run Tryz.prog (part 3 #[.int .i64 y1,.int .i64 y2,.int .i64 y3] (2*1)) w=.ok (.int .i64 y3) w:=run_part_plain w a rfl;have e:∀x y:Int,Sem.run Tryz.prog (Op.equalIn 9999 3 (.int .i64 x) (.int .i64 y)) w=.ok (x==y) w:=fun x y=>run_equalIn_int w 9998 3 .i64 .i64 x y Tryz.underlying3
 simp only[Op.eqItems,Sem.run_bind,f,j,e,Result.andThen_ok];by_cases b:x1=y1
 ·subst b;simp only[beq_self_eq_true,Bool.not_true,Bool.false_eq_true,if_false,Sem.run_bind,g,k,e,Result.andThen_ok];by_cases c:x2=y2
  ·subst c;simp only[beq_self_eq_true,Bool.not_true,Bool.false_eq_true,if_false,Sem.run_bind,h,l,e,Result.andThen_ok];by_cases d:x3=y3
   ·subst d;simp
   ·have:(x3==y3)=false:=by simpa using d
    simp[d]
  ·have:(x2==y2)=false:=by simpa using c
   simp[c]
 ·have:(x1==y1)=false:=by simpa using b
  simp[b]
