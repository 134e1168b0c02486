/- maps.All over a map of strings to pointers: the value that it hands back. -/
import Derived.Test.YtoichcjlfpijeaaAllIt2
import Derived.RangeFuncKeeps
import Derived.RangeFuncWrites
import Derived.RangeFuncNested
namespace Go.Proofs.Ytoichcjlfpijeaa
open Go.RowKit Go.Maps Go.Sort Go.Shelf Go.Proofs Go.Bl

theorem all_stops (F : Fence) (nF : Nat) (h8 : F.fn 75) (hro : F.round = none) (hn : 1 ≤ nF) (Bm m n : Nat) (f : ByteArray → Option Value) (hv : ∀ s v, f s = some v → ∃ k : Nat, v = .pointer (some ⟨k, 0, none⟩)) (w : World) (hBm : Bm < w.heap.size)
    (hm : w.cell? ⟨Bm, 0, none⟩ = some (.map (some m))) (hown : MapAt w m f n) :
    SeqStopsK F nF Try.prog 75 #[.pointer (some ⟨Bm, 0, none⟩)] (encR (f := f)) (KpB m w.heap.size) (fun ps => AllP f (ps.map (·.1))) (fun _ => True) n w := fun l J Jx W hW hJ _ hY h0 => by
  have hown' : MapAt W m f n := by
    obtain ⟨es, clk, hb, rest⟩ := hown.ex
    exact ⟨es, clk, (hW.block m (lt_of_obj hb)).trans hb, rest⟩
  exact all1R_in F nF h8 hro hn l Bm m n w.heap.size f hv J Jx hY W hJ hW.size ((hW.cell (p := ⟨Bm, 0, none⟩) hBm).trans hm) hown' h0
end Go.Proofs.Ytoichcjlfpijeaa
