/- QuotaNext: the walk in the row's form. -/
import Derived.Test.YtoichcjlfpijeaaNext
import Derived.Test.YtoichcjlfpijeaaQOpen
namespace Go.Proofs.Ytoichcjlfpijeaa
open Go.RowKit Go.Bl
theorem qnx (A : Option Addr) (len cap : Nat) (l : Nat → QOp) (name : ByteArray) (cost now : Int) (w : World) (hl : OpsAt w A len l) {p : Prop} (_ : p) {q r : Prop} (_ : q) (_ : r) :
    Calls Try.prog 7 #[.slice A len cap, .string name, .int .i64 cost, .int .i64 now] w fun e w' => e = .returned (.bool true) ∧ Fr [] w w' := next_law_any A len cap l name cost now w hl
end Go.Proofs.Ytoichcjlfpijeaa
