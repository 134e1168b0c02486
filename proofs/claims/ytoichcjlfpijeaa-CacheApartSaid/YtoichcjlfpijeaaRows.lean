/-
  No cell of these rows narrows 'for every input' (looked for: loops, veiled, ifaces, maps, wideKeys, modest, calm, conditions, laid).
  DERIVED. THE GIVEN ROWS OF THIS SEAT. 7 by the template 'for every input the law returns true; each argument reads behind the call as it read before'; 0 by the template 'total and deterministic' (their statements: YtoichcjlfpijeaaTotals.lean).
  GIVEN WITH THE SEED: the statements are not yours to turn. If you find one false, say at which input.
  Laid BY PROGRAM, IN A SANDBOX (cutbox-rows.mjs): the forced cells as the released guide's own fill.sh prints them over the translation afd5c72b8af9953d… (all of the seat's roots in one cut). By AI agents, Wed Nov 11 2026. No macro, syntax, notation, axiom, sorry.
-/
import Derived.Test.YtoichcjlfpijeaaChecked
import GoSem.Claim
import GoSem.ClaimJoined
import GoSem.ClaimMapViews
import Derived.JoinedTies
import Derived.KernelRfl
namespace Go.Proofs.Ytoichcjlfpijeaa
/- THE CELL 'sum', in the pinned program and in every row, IS THE sha256 OF THE DUMP (.gsa) THAT YtoichcjlfpijeaaProg.lean LOADS. Nothing in Lean hashes anything: it is a label: what it is worth is what the hold of that sum in a sandbox is worth. -/
noncomputable def Try.pinned : Pinned := { name := "ytoichcjlfpijeaa", sum := "afd5c72b8af9953dd9e4cbac6a4ed447050befb6b15f6f5834eec742b8f17c2d", checked := Try.checked }
namespace Rows
def none {H : Type} : Left H := { results := [], args := [] }

/-- 'belfrylaw19.QuotaBounds': WHATEVER THE INPUT: true; the input reads as it did. -/
def quotaBoundsSpec : ChangeSpec := { name := "quotaBounds", fn := fun _ => fun
  | [d1, d2, d3] => { results := [.lit (.bool true)], args := [d1, d2, d3] }
  | _ => none }
def quotaBoundsRow : OpenClaim := { program := "ytoichcjlfpijeaa", sum := "afd5c72b8af9953dd9e4cbac6a4ed447050befb6b15f6f5834eec742b8f17c2d", func := "belfry/belfrylaw19.QuotaBounds", spec := "quotaBounds", apart := false }
def QuotaBoundsSaid : Prop := quotaBoundsRow.holds Try.pinned (OpenSpec.ofChange quotaBoundsSpec)

/-- ITS FALSE NEIGHBOUR: 'it returns false'. Refute it at one input. -/
def quotaBoundsWrong : ChangeSpec := { name := "quotaBounds", fn := fun _ => fun
  | [d1, d2, d3] => { results := [.lit (.bool false)], args := [d1, d2, d3] }
  | _ => none }
def QuotaBoundsWrongFalsely : Prop := quotaBoundsRow.holds Try.pinned (OpenSpec.ofChange quotaBoundsWrong)

/-- 'belfrylaw19.QuotaAsks': WHATEVER THE INPUT: true; the input reads as it did. -/
def quotaAsksSpec : ChangeSpec := { name := "quotaAsks", fn := fun _ => fun
  | [d1, d2] => { results := [.lit (.bool true)], args := [d1, d2] }
  | _ => none }
def quotaAsksRow : OpenClaim := { program := "ytoichcjlfpijeaa", sum := "afd5c72b8af9953dd9e4cbac6a4ed447050befb6b15f6f5834eec742b8f17c2d", func := "belfry/belfrylaw19.QuotaAsks", spec := "quotaAsks", apart := false }
def QuotaAsksSaid : Prop := quotaAsksRow.holds Try.pinned (OpenSpec.ofChange quotaAsksSpec)

/-- ITS FALSE NEIGHBOUR: 'it returns false'. Refute it at one input. -/
def quotaAsksWrong : ChangeSpec := { name := "quotaAsks", fn := fun _ => fun
  | [d1, d2] => { results := [.lit (.bool false)], args := [d1, d2] }
  | _ => none }
def QuotaAsksWrongFalsely : Prop := quotaAsksRow.holds Try.pinned (OpenSpec.ofChange quotaAsksWrong)

/-- 'belfrylaw22.CacheApart': WHATEVER THE INPUT: true; the input reads as it did. -/
def cacheApartSpec : ChangeSpec := { name := "cacheApart", fn := fun _ => fun
  | [d1, d2, d3, d4] => { results := [.lit (.bool true)], args := [d1, d2, d3, d4] }
  | _ => none }
def cacheApartRow : OpenClaim := { program := "ytoichcjlfpijeaa", sum := "afd5c72b8af9953dd9e4cbac6a4ed447050befb6b15f6f5834eec742b8f17c2d", func := "belfry/belfrylaw22.CacheApart", spec := "cacheApart", unfollowed := true, recurses := true, apart := false }
def CacheApartSaid : Prop := cacheApartRow.holds Try.pinned (OpenSpec.ofChange cacheApartSpec)

/-- ITS FALSE NEIGHBOUR: 'it returns false'. Refute it at one input. -/
def cacheApartWrong : ChangeSpec := { name := "cacheApart", fn := fun _ => fun
  | [d1, d2, d3, d4] => { results := [.lit (.bool false)], args := [d1, d2, d3, d4] }
  | _ => none }
def CacheApartWrongFalsely : Prop := cacheApartRow.holds Try.pinned (OpenSpec.ofChange cacheApartWrong)

/-- 'belfrylaw22.CacheNil': WHATEVER THE INPUT: true; the input reads as it did. -/
def cacheNilSpec : ChangeSpec := { name := "cacheNil", fn := fun _ => fun
  | [d] => { results := [.lit (.bool true)], args := [d] }
  | _ => none }
def cacheNilRow : OpenClaim := { program := "ytoichcjlfpijeaa", sum := "afd5c72b8af9953dd9e4cbac6a4ed447050befb6b15f6f5834eec742b8f17c2d", func := "belfry/belfrylaw22.CacheNil", spec := "cacheNil", unfollowed := true, recurses := true, apart := false }
def CacheNilSaid : Prop := cacheNilRow.holds Try.pinned (OpenSpec.ofChange cacheNilSpec)

/-- ITS FALSE NEIGHBOUR: 'it returns false'. Refute it at one input. -/
def cacheNilWrong : ChangeSpec := { name := "cacheNil", fn := fun _ => fun
  | [d] => { results := [.lit (.bool false)], args := [d] }
  | _ => none }
def CacheNilWrongFalsely : Prop := cacheNilRow.holds Try.pinned (OpenSpec.ofChange cacheNilWrong)

/-- 'belfrylaw19.QuotaNext': WHATEVER THE INPUT: true; the input reads as it did. -/
def quotaNextSpec : ChangeSpec := { name := "quotaNext", fn := fun _ => fun
  | [d1, d2, d3, d4] => { results := [.lit (.bool true)], args := [d1, d2, d3, d4] }
  | _ => none }
def quotaNextRow : OpenClaim := { program := "ytoichcjlfpijeaa", sum := "afd5c72b8af9953dd9e4cbac6a4ed447050befb6b15f6f5834eec742b8f17c2d", func := "belfry/belfrylaw19.QuotaNext", spec := "quotaNext", unfollowed := true, recurses := true, apart := false }
def QuotaNextSaid : Prop := quotaNextRow.holds Try.pinned (OpenSpec.ofChange quotaNextSpec)

/-- ITS FALSE NEIGHBOUR: 'it returns false'. Refute it at one input. -/
def quotaNextWrong : ChangeSpec := { name := "quotaNext", fn := fun _ => fun
  | [d1, d2, d3, d4] => { results := [.lit (.bool false)], args := [d1, d2, d3, d4] }
  | _ => none }
def QuotaNextWrongFalsely : Prop := quotaNextRow.holds Try.pinned (OpenSpec.ofChange quotaNextWrong)

/-- 'belfrylaw19.QuotaApart': WHATEVER THE INPUT: true; the input reads as it did. -/
def quotaApartSpec : ChangeSpec := { name := "quotaApart", fn := fun _ => fun
  | [d1, d2, d3] => { results := [.lit (.bool true)], args := [d1, d2, d3] }
  | _ => none }
def quotaApartRow : OpenClaim := { program := "ytoichcjlfpijeaa", sum := "afd5c72b8af9953dd9e4cbac6a4ed447050befb6b15f6f5834eec742b8f17c2d", func := "belfry/belfrylaw19.QuotaApart", spec := "quotaApart", unfollowed := true, recurses := true, apart := false }
def QuotaApartSaid : Prop := quotaApartRow.holds Try.pinned (OpenSpec.ofChange quotaApartSpec)

/-- ITS FALSE NEIGHBOUR: 'it returns false'. Refute it at one input. -/
def quotaApartWrong : ChangeSpec := { name := "quotaApart", fn := fun _ => fun
  | [d1, d2, d3] => { results := [.lit (.bool false)], args := [d1, d2, d3] }
  | _ => none }
def QuotaApartWrongFalsely : Prop := quotaApartRow.holds Try.pinned (OpenSpec.ofChange quotaApartWrong)

/-- 'belfrylaw19.QuotaNil': WHATEVER THE INPUT: true; the input reads as it did. -/
def quotaNilSpec : ChangeSpec := { name := "quotaNil", fn := fun _ => fun
  | [d] => { results := [.lit (.bool true)], args := [d] }
  | _ => none }
def quotaNilRow : OpenClaim := { program := "ytoichcjlfpijeaa", sum := "afd5c72b8af9953dd9e4cbac6a4ed447050befb6b15f6f5834eec742b8f17c2d", func := "belfry/belfrylaw19.QuotaNil", spec := "quotaNil", unfollowed := true, recurses := true, apart := false }
def QuotaNilSaid : Prop := quotaNilRow.holds Try.pinned (OpenSpec.ofChange quotaNilSpec)

/-- ITS FALSE NEIGHBOUR: 'it returns false'. Refute it at one input. -/
def quotaNilWrong : ChangeSpec := { name := "quotaNil", fn := fun _ => fun
  | [d] => { results := [.lit (.bool false)], args := [d] }
  | _ => none }
def QuotaNilWrongFalsely : Prop := quotaNilRow.holds Try.pinned (OpenSpec.ofChange quotaNilWrong)

/- THE SECOND FORM. 'bulk': how many values and letters a reading holds, each counted each time it is reached (what is shared counts as often as it is met; a slice's spare places count too). A statement '..UptoSaid' is the law's where the arguments, and the package variables that the reading takes, are together of bulk at most 1048576: NARROWER than '..Said'. Prove '..Said' where nothing that the law and all that it calls make is longer than what came in: it says more and counts as full. Else prove '..UptoSaid'. A law counts once. -/
mutual
def uptoBulk {H : Type} : DataW H → Nat
  | .lit (.string bytes) => bytes.length + 1
  | .lit _ => 1
  | .nil => 1
  | .ptr d => uptoBulk d + 1
  | .slice elems spare => uptoBulkAll elems + uptoBulkAll spare + 1
  | .agg parts => uptoBulkAll parts + 1
  | .iface _ d => uptoBulk d + 1
  | .map entries => uptoBulkEntries entries + 1
  | .held _ => 1
def uptoBulkAll {H : Type} : List (DataW H) → Nat
  | [] => 0
  | d :: r => uptoBulk d + uptoBulkAll r
def uptoBulkEntries {H : Type} : List (Lit × DataW H) → Nat
  | [] => 0
  | x :: r => uptoBulkEntry x + uptoBulkEntries r
def uptoBulkEntry {H : Type} : Lit × DataW H → Nat
  | (.string bytes, d) => bytes.length + uptoBulk d + 1
  | (_, d) => uptoBulk d + 1
 end
def uptoSmall : (H : Type) → List (DataW H) → Bool := fun _ ds => decide (uptoBulkAll ds ≤ 1048576)
def OpenSpec.upto (s : _root_.Go.ChangeSpec) : _root_.Go.OpenSpec := { _root_.Go.OpenSpec.ofChange s with cond := some uptoSmall }

/-- 'belfrylaw19.QuotaBounds', WHERE WHAT IT READS IS OF BULK AT MOST 1048576: true; the input reads as it did. -/
def quotaBoundsUptoRow : OpenClaim := { program := "ytoichcjlfpijeaa", sum := "afd5c72b8af9953dd9e4cbac6a4ed447050befb6b15f6f5834eec742b8f17c2d", func := "belfry/belfrylaw19.QuotaBounds", spec := "quotaBounds", apart := false, narrowed := true }
def QuotaBoundsUptoSaid : Prop := quotaBoundsUptoRow.holds Try.pinned (OpenSpec.upto quotaBoundsSpec)

/-- 'belfrylaw19.QuotaAsks', WHERE WHAT IT READS IS OF BULK AT MOST 1048576: true; the input reads as it did. -/
def quotaAsksUptoRow : OpenClaim := { program := "ytoichcjlfpijeaa", sum := "afd5c72b8af9953dd9e4cbac6a4ed447050befb6b15f6f5834eec742b8f17c2d", func := "belfry/belfrylaw19.QuotaAsks", spec := "quotaAsks", apart := false, narrowed := true }
def QuotaAsksUptoSaid : Prop := quotaAsksUptoRow.holds Try.pinned (OpenSpec.upto quotaAsksSpec)

/-- 'belfrylaw22.CacheApart', WHERE WHAT IT READS IS OF BULK AT MOST 1048576: true; the input reads as it did. -/
def cacheApartUptoRow : OpenClaim := { program := "ytoichcjlfpijeaa", sum := "afd5c72b8af9953dd9e4cbac6a4ed447050befb6b15f6f5834eec742b8f17c2d", func := "belfry/belfrylaw22.CacheApart", spec := "cacheApart", unfollowed := true, recurses := true, apart := false, narrowed := true }
def CacheApartUptoSaid : Prop := cacheApartUptoRow.holds Try.pinned (OpenSpec.upto cacheApartSpec)

/-- 'belfrylaw22.CacheNil', WHERE WHAT IT READS IS OF BULK AT MOST 1048576: true; the input reads as it did. -/
def cacheNilUptoRow : OpenClaim := { program := "ytoichcjlfpijeaa", sum := "afd5c72b8af9953dd9e4cbac6a4ed447050befb6b15f6f5834eec742b8f17c2d", func := "belfry/belfrylaw22.CacheNil", spec := "cacheNil", unfollowed := true, recurses := true, apart := false, narrowed := true }
def CacheNilUptoSaid : Prop := cacheNilUptoRow.holds Try.pinned (OpenSpec.upto cacheNilSpec)

/-- 'belfrylaw19.QuotaNext', WHERE WHAT IT READS IS OF BULK AT MOST 1048576: true; the input reads as it did. -/
def quotaNextUptoRow : OpenClaim := { program := "ytoichcjlfpijeaa", sum := "afd5c72b8af9953dd9e4cbac6a4ed447050befb6b15f6f5834eec742b8f17c2d", func := "belfry/belfrylaw19.QuotaNext", spec := "quotaNext", unfollowed := true, recurses := true, apart := false, narrowed := true }
def QuotaNextUptoSaid : Prop := quotaNextUptoRow.holds Try.pinned (OpenSpec.upto quotaNextSpec)

/-- 'belfrylaw19.QuotaApart', WHERE WHAT IT READS IS OF BULK AT MOST 1048576: true; the input reads as it did. -/
def quotaApartUptoRow : OpenClaim := { program := "ytoichcjlfpijeaa", sum := "afd5c72b8af9953dd9e4cbac6a4ed447050befb6b15f6f5834eec742b8f17c2d", func := "belfry/belfrylaw19.QuotaApart", spec := "quotaApart", unfollowed := true, recurses := true, apart := false, narrowed := true }
def QuotaApartUptoSaid : Prop := quotaApartUptoRow.holds Try.pinned (OpenSpec.upto quotaApartSpec)

/-- 'belfrylaw19.QuotaNil', WHERE WHAT IT READS IS OF BULK AT MOST 1048576: true; the input reads as it did. -/
def quotaNilUptoRow : OpenClaim := { program := "ytoichcjlfpijeaa", sum := "afd5c72b8af9953dd9e4cbac6a4ed447050befb6b15f6f5834eec742b8f17c2d", func := "belfry/belfrylaw19.QuotaNil", spec := "quotaNil", unfollowed := true, recurses := true, apart := false, narrowed := true }
def QuotaNilUptoSaid : Prop := quotaNilUptoRow.holds Try.pinned (OpenSpec.upto quotaNilSpec)

end Rows
end Go.Proofs.Ytoichcjlfpijeaa
