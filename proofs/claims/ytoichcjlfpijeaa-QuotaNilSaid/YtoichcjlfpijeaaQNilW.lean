/- QuotaNil: the walk. -/
import Derived.Test.YtoichcjlfpijeaaQAll2
import Derived.Test.YtoichcjlfpijeaaQOpen
namespace Go.Proofs.Ytoichcjlfpijeaa
open Go.RowKit Go.Bl

theorem copy_nil (w : World) : Calls Try.prog 33 #[.pointer none] w fun e w' => e = .returned (.pointer none) ∧ w = w' := by
  go_enter Try.func33, Try.ntmps33
  go_wp2
  go_ret
  exact ⟨rfl, rfl⟩

theorem cell_fr0 {w w' : World} {S : List Nat} (hF : Fr S w w') {a : Addr} (ha : a.block < w.heap.size) (hS : a.block ∉ S) : w'.cell? a = w.cell? a := World.cell?_of_block (w := w) (hF.block a.block ha hS)

set_option maxRecDepth 100000 in
set_option maxHeartbeats 4000000 in
theorem nil_any (o : QOp) (w : World) (_ : o.Fits) : Calls Try.prog 9 #[.agg o.list.toArray] w fun e w' => e = .returned (.bool true) ∧ Fr [] w w' := by
  obtain ⟨kind, name, rate, burst, cost, now⟩ := o
  show Calls Try.prog 9 #[.agg #[.int .i64 kind, .string name, .int .i64 rate, .int .i64 burst, .int .i64 cost, .int .i64 now]] w _
  go_enter Try.func9, Try.ntmps9
  go_wp2_with fail
  refine (tok_nil _ _ _).mono ?_
  rintro e w1 ⟨rfl, rfl⟩
  go_wp2_with fail
  refine (next_nil _ _ _ _).mono ?_
  rintro e w1 ⟨rfl, rfl⟩
  go_wp2_with fail
  refine (cnt_nil _ _).mono ?_
  rintro e w1 ⟨rfl, hF⟩
  have hz := hF.size
  rw [size_alloc'] at hz
  have hlt : w.heap.size < w1.heap.size := by omega
  have hA := hF.obj (heap_alloc w (.cells #[.int .i64 kind, .string name, .int .i64 rate, .int .i64 burst, .int .i64 cost, .int .i64 now] 29)) (by simp)
  have c1 : w1.cell? ⟨w.heap.size, 1, none⟩ = some (.string name) := cell_of hA 1
  have hFr : Fr [] w w1 := ((Fr.refl _ _).alloc _).trans hF
  clear hF hz hA
  go_wp2_with (first
    | (go_at_call 11; refine (set_nil _ _ _ _ _).mono ?_; rintro e w2 ⟨rfl, rfl⟩)
    | (go_at_call 13; refine (take_nil _ _ _ _).mono ?_; rintro e w2 ⟨rfl, rfl⟩)
    | (go_at_call 34; refine (give_nil _ _ _ _).mono ?_; rintro e w2 ⟨rfl, rfl⟩)
    | (go_at_call 36; refine (len_nil _).mono ?_; rintro e w2 ⟨rfl, rfl⟩)
    | (go_at_call 33; refine (copy_nil _).mono ?_; rintro e w2 ⟨rfl, rfl⟩)
    | (go_at_call 35; refine (drop_nil _ _).mono ?_; rintro e w3 ⟨rfl, hF3⟩; have hFr3 := (hFr.alloc _).trans hF3; clear hF3)
    | (go_at_call 12; refine (known_any _).mono ?_; rintro e w4 ⟨rfl, hF4⟩; have hFr4 := hFr3.trans hF4; clear hF4))
  go_ret
  exact ⟨rfl, hFr4⟩
end Go.Proofs.Ytoichcjlfpijeaa
