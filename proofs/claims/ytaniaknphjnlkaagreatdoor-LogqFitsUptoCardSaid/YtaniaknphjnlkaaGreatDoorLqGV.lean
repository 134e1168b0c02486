/- What the listed variables give the walks. -/
import Derived.Test.YtaniaknphjnlkaaGreatDoorLqNum
import Derived.Test.YtaniaknphjnlkaaGreatDoorShelfVal
import Derived.Test.YtaniaknphjnlkaaGreatDoorRows
import Derived.Lib.LaidU8
import Derived.Lib.LaidTab
import Derived.Lib.LaidU8T
import Derived.ProofKit
import Derived.LaidMore
import Derived.OpenShut
import Derived.Stop.Joined
namespace Go.Proofs.YtaniaknphjnlkaaGreatDoor
open Go.RowKit Go.Bl Go.Lq Go.Lib

theorem pow10_type : (Tryz.prog.globals[5]?).map (·.type) = (Tryz.prog.globals[5]?).map (·.type) := rfl
theorem iface_of_reads {W : World} {n nm : String} {d : DataW Unit} {g : Nat} (h : VarReads Tryz.prog W n (.iface nm d)) (hg : Tryz.prog.globalNamed n = some g) {ti : TypeId} {ms : Array (String × TypeId)} (ht : (Tryz.prog.globals[g]?).map (·.type) = some ti) (hi : Tryz.prog.underlying ti = some (.interface ms)) :
    ∃ a b, W.cell? ⟨g, 0, none⟩ = some (.iface a b) := by
  obtain ⟨g', t', cs, fuel, p, hg', ht', hv, hd⟩ := h
  obtain rfl := Option.some.inj (hg.symm.trans hg')
  obtain rfl := Option.some.inj (ht.symm.trans ht')
  have hc := World.var?_cell hg hv 0
  obtain ⟨l⟩ := cs
  cases fuel with
  | zero => simp [DataW.trod] at hd
  | succ m =>
    simp only [DataW.trod, hi] at hd
    split at hd
    all_goals first | exact ⟨_, _, hc⟩ | (simp at hd; done) | (simp_all; done)
theorem tab_of_reads {W : World} {name : String} {k : IntKind} {zs : List Int} {g : Nat} {t e : TypeId} {n : Nat}
    (hg : Tryz.prog.globalNamed name = some g) (hty : (Tryz.prog.globals[g]?).map (·.type) = some t) (ht : Tryz.prog.underlying t = some (.array n e)) (he : Tryz.prog.underlying e = some (.int k)) (hce : Tryz.prog.cellsOf e = 1) (hct : Tryz.prog.cellsOf t = n)
    (h : VarReads Tryz.prog W name (tabData k zs)) : TabIs Tryz.prog W name k zs := by
  obtain ⟨g', t', cs, fuel, p, hg', ht', hvar, hd⟩ := h
  obtain rfl := Option.some.inj (hg.symm.trans hg')
  obtain rfl := Option.some.inj (hty.symm.trans ht')
  unfold TabIs
  rw [hvar, ← cells_of_tab ht he hce hct hd]
set_option maxRecDepth 1000000 in
theorem gv_of_laid {W : World} (hL : laidMet Tryz.prog Rows.logqBackRow.laid W) : GV W := by
  refine ⟨?_, ?_, ?_, ?_⟩
  · exact iface_of_reads (laidMet.reads hL (n := "strconv.ErrSyntax") (.tail _ (.tail _ (.tail _ (.tail _ (.tail _ (.head _))))))) (by kernel_rfl) (ti := 85) (by kernel_rfl) Tryz.underlying85
  · exact iface_of_reads (laidMet.reads hL (n := "strconv.ErrRange") (.tail _ (.tail _ (.tail _ (.tail _ (.head _)))))) (by kernel_rfl) (ti := 85) (by kernel_rfl) Tryz.underlying85
  · exact tab_of_reads (t := 155) pow10_at (by kernel_rfl) Tryz.underlying155 Tryz.underlying133 (by kernel_rfl) (by kernel_rfl) (laidMet.reads hL (.tail _ (.tail _ (.head _))))
  · exact utf8Tabs_of_readsT (U8Types.of196 Tryz.lays196) ⟨by kernel_rfl, by kernel_rfl, by kernel_rfl, by kernel_rfl, by kernel_rfl, by kernel_rfl, by kernel_rfl⟩ (laidMet.reads hL (.tail _ (.tail _ (.tail _ (.tail _ (.tail _ (.tail _ (.head _)))))))) (laidMet.reads hL (.tail _ (.tail _ (.tail _ (.head _)))))
end Go.Proofs.YtaniaknphjnlkaaGreatDoor
