/- The law CutAlong, walked. -/
import Derived.Test.YtpbdcppaiafbgaaGreatJI
import Derived.Test.YtpbdcppaiafbgaaGreatJK
import Derived.Test.YtpbdcppaiafbgaaGreatRW
namespace Go.Proofs.YtpbdcppaiafbgaaGreat
open Go Go.RowKit Go.Words Go.Mesh
theorem cutalong_law (sv : Value) (N : Int) (T : List T3) (v1 : Value) (l : List (Int × Int)) (w : World) {B : Nat} (hB0 : B ≤ w.heap.size) (hT : Sl 3 RTri w B sv T) (hN : I64 N) (h1 : Sl 2 RPair w B v1 l ∧ ∀ e ∈ l, ok2 e) :
    Calls Tryz.prog 3 #[.agg #[.int .i64 N, sv], v1] w fun e w' => e = .returned (.bool true) ∧ Below w.heap.size w w' :=
  cutalong_law0 (fun a1 a2 a3 a4 a5 a6 => along_ref_calls0 (fun _ _ _ _ _ _ _ b1 b2 b3 b4 b5 b6 v b7 => sect19_calls b1 b2 b3 b4 b5 b6 v b7) a1 a2 a3 a4 a5 a6) sv N T v1 l w hB0 hT hN h1
end Go.Proofs.YtpbdcppaiafbgaaGreat
