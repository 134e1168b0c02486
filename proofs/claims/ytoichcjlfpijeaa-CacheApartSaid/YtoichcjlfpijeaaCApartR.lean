/- CacheApart: the walk in the row's form. -/
import Derived.Test.YtoichcjlfpijeaaCApartW
namespace Go.Proofs.Ytoichcjlfpijeaa
open Go.RowKit Go.Bl
theorem cap_row (most : Int) (own : ByteArray) (A : Option Addr) (len cap : Nat) (l : Nat → COp) (B : Option Addr) (olen ocap : Nat) (m : Nat → COp) (w : World) {p : Prop} (_ : p) {q : Prop} (_ : q) (hl : COpsAt w A len l) (hm : COpsAt w B olen m) :
    Calls Try.prog 5 #[.int .i64 most, .string own, .slice A len cap, .slice B olen ocap] w fun e w' => e = .returned (.bool true) ∧ Fr [] w w' := capart_any most own A len cap l B olen ocap m w hl hm
end Go.Proofs.Ytoichcjlfpijeaa
