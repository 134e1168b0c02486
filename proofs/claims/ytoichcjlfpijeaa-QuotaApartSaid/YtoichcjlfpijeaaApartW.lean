/- QuotaApart: the walk in the row's form. -/
import Derived.Test.YtoichcjlfpijeaaApart
import Derived.Test.YtoichcjlfpijeaaQOpen
namespace Go.Proofs.Ytoichcjlfpijeaa
open Go.RowKit Go.Bl
theorem qap (A : Option Addr) (len cap : Nat) (l : Nat → QOp) (name : ByteArray) (B : Option Addr) (mlen mcap : Nat) (m : Nat → QOp) (w : World) (hl : OpsAt w A len l) {p : Prop} (_ : p) (hm : OpsAt w B mlen m) :
    Calls Try.prog 8 #[.slice A len cap, .string name, .slice B mlen mcap] w fun e w' => e = .returned (.bool true) ∧ Fr [] w w' := apart_any A len cap l name B mlen mcap m w hl hm
end Go.Proofs.Ytoichcjlfpijeaa
