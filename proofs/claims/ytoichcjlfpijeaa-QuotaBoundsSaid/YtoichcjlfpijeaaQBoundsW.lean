/- QuotaBounds: the walk in the row's form. -/
import Derived.Test.YtoichcjlfpijeaaQBounds
import Derived.Test.YtoichcjlfpijeaaQOpen
namespace Go.Proofs.Ytoichcjlfpijeaa
open Go.RowKit Go.Bl
theorem qb (rate burst : Int) (A : Option Addr) (len cap : Nat) (l : Nat → QOp) (w : World) (_ : (Lit.int .i64 rate).wf = true) (_ : (Lit.int .i64 burst).wf = true) (hl : OpsAt w A len l) :
    Calls Try.prog 3 #[.int .i64 rate, .int .i64 burst, .slice A len cap] w fun e w' => e = .returned (.bool true) ∧ Fr [] w w' := bounds_any rate burst A len cap l w hl
end Go.Proofs.Ytoichcjlfpijeaa
