/- What the listed variables give the walks of chapter 15. -/
import Derived.Test.YtdhmloejgoacaaaGreatDoorLqNum
import Derived.Test.YtdhmloejgoacaaaGreatDoorShelfVal
import Derived.Test.YtdhmloejgoacaaaGreatDoorRows
import Derived.Lib.LaidU8
import Derived.Lib.LaidTab
import Derived.Lib.LaidU8T
import Derived.Lib.LaidIn
import Derived.ProofKit
import Derived.LaidMore
import Derived.OpenShut
import Derived.Stop.Joined
set_option linter.unusedVariables false
set_option linter.unusedSimpArgs false
namespace Go.Proofs.YtdhmloejgoacaaaGreatDoor
open Go.RowKit Go.Bl Go.Lq Go.Lib

theorem tab_of_reads {W : World} {name : String} {k : IntKind} {zs : List Int} {g : Nat} {t e : TypeId} {n : Nat}
    (hg : Tryz.prog.globalNamed name = some g) (hty : (Tryz.prog.globals[g]?).map (·.type) = some t) (ht : Tryz.prog.underlying t = some (.array n e)) (he : Tryz.prog.underlying e = some (.int k)) (hce : Tryz.prog.cellsOf e = 1) (hct : Tryz.prog.cellsOf t = n)
    (h : VarReads Tryz.prog W name (tabData k zs)) : TabIs Tryz.prog W name k zs := by
  obtain ⟨g', t', cs, fuel, p, hg', ht', hvar, hd⟩ := h
  obtain rfl := Option.some.inj (hg.symm.trans hg')
  obtain rfl := Option.some.inj (hty.symm.trans ht')
  unfold TabIs
  rw [hvar, ← cells_of_tab ht he hce hct hd]
set_option maxRecDepth 1000000 in
theorem gvT_of_laid {W : World} (hL : laidMet Tryz.prog Rows.traceqWritesRow.laid W) : GV W := by
  refine ⟨?_, ?_⟩
  · exact tab_of_reads (t := 221) pow10_at (by kernel_rfl) Tryz.underlying221 Tryz.underlying103 (by kernel_rfl) (by kernel_rfl) (laidMet.reads hL (.tail _ (.tail _ (.head _))))
  · exact utf8Tabs_of_readsT (U8Types.of196 Tryz.lays196) ⟨by kernel_rfl, by kernel_rfl, by kernel_rfl, by kernel_rfl, by kernel_rfl, by kernel_rfl, by kernel_rfl⟩ (laidMet.reads hL (.tail _ (.tail _ (.tail _ (.tail _ (.head _)))))) (laidMet.reads hL (.tail _ (.tail _ (.tail _ (.head _)))))
theorem glob7 : Tryz.prog.globalNamed "math/bits.deBruijn64tab" = some 7 := by kernel_rfl
theorem size8T {W : World} (h : laidMet Tryz.prog Rows.traceqWritesRow.laid W) : 8 ≤ W.heap.size := by
  obtain ⟨g, t, cs, fuel, p, hg, _, hv, _⟩ := Lib.laidMet.reads h (n := "math/bits.deBruijn64tab") (.tail _ (.head _))
  obtain rfl := Option.some.inj (glob7.symm.trans hg)
  unfold World.var? at hv
  rw [glob7] at hv
  simp only [Option.bind_some] at hv
  rcases Nat.lt_or_ge 7 W.heap.size with h7 | h7
  · omega
  · rw [Array.getElem?_eq_none h7] at hv
    simp at hv
/-- The witness's world: the door's, with the pinned table laid. -/
noncomputable def laidWorld (os : Os) : World :=
  let w0 := World.doorLaid Tryz.prog 4000 os
  { w0 with heap := w0.heap.modify 1 fun
      | .cells _ t frozen => .cells (Lib.firstTab.map fun z => Value.int .u8 z).toArray t frozen
      | o => o }
theorem door_metT (os : Os) (args : Array Value) : laidMetH Tryz.prog Rows.traceqWritesRow.laid ((laidWorld os).forCall (fun _ _ => 0) ⟨#[], args, []⟩).memory :=
  laidMetH_of_parts3 (fuel := 8) (LaidIn.of_run (List.range 64) 8 (by kernel_rfl) (by kernel_rfl) (by kernel_rfl) (by kernel_rfl)).met (by kernel_rfl) (by kernel_rfl)
end Go.Proofs.YtdhmloejgoacaaaGreatDoor
