/- Two matchers compared. -/
import Derived.Test.YtaniaknphjnlkaaGreatDoorLqRd
import Derived.Laws.StructEq
namespace Go.Proofs.YtaniaknphjnlkaaGreatDoor
open Go.RowKit Go.Bl Go.Lq
set_option maxRecDepth 100000 in
theorem neq56 (a b : Int) (k1 k2 v1 v2 : ByteArray) (w : World) : (binOp .neq 56 (.agg #[.int .i64 a, .string k1, .string v1]) (.agg #[.int .i64 b, .string k2, .string v2])).run Tryz.prog w = .ok (.bool (!((a == b) && ((k1.toList == k2.toList) && (v1.toList == v2.toList))))) w := by
  rw [run_neq_struct, run_equalIn_struct w 9999 56 _ _ (by kernel_rfl) (by kernel_rfl)]
  obtain ⟨fs, hfs⟩ : ∃ fs, (Tryz.prog.fieldsOf 56).toList = fs := ⟨_, rfl⟩
  have hu := Tryz.underlying56
  unfold Program.fieldsOf at hfs ⊢
  simp [hu, Op.eqFields, go_sem]
  by_cases h1 : a = b
  · by_cases h2 : k1.toList = k2.toList
    · by_cases h3 : v1.toList = v2.toList
      · simp [h1, h2, h3]
      · simp [h1, h2, h3]
    · simp [h1, h2]
  · simp [h1]
end Go.Proofs.YtaniaknphjnlkaaGreatDoor
