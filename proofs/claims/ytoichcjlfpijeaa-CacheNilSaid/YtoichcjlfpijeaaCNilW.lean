/- CacheNil: the walk. -/
import Derived.Test.YtoichcjlfpijeaaCKnown
import Derived.Test.YtoichcjlfpijeaaCOpen
namespace Go.Proofs.Ytoichcjlfpijeaa
open Go.RowKit Go.Bl

theorem n26 (k : Int) (w : World) : Calls Try.prog 26 #[.pointer none, .int .i64 k] w fun e w' => e = .returned (.tuple #[.int .i64 0, .bool false]) ∧ w = w' := by
  go_enter Try.func26, Try.ntmps26
  go_wp2
  go_ret2
  exact ⟨rfl, rfl⟩
theorem n27 (k v : Int) (w : World) : Calls Try.prog 27 #[.pointer none, .int .i64 k, .int .i64 v] w fun e w' => e = .returned (.tuple #[.int .i64 0, .bool false]) ∧ w = w' := by
  go_enter Try.func27, Try.ntmps27
  go_wp2
  go_ret2
  exact ⟨rfl, rfl⟩
theorem n28 (k : Int) (w : World) : Calls Try.prog 28 #[.pointer none, .int .i64 k] w fun e w' => e = .returned (.bool false) ∧ w = w' := by
  go_enter Try.func28, Try.ntmps28
  go_wp2
  go_ret
  exact ⟨rfl, rfl⟩
theorem n29 (w : World) : Calls Try.prog 29 #[.pointer none] w fun e w' => e = .returned (.int .i64 0) ∧ w = w' := by
  go_enter Try.func29, Try.ntmps29
  go_wp2
  go_ret
  exact ⟨rfl, rfl⟩
theorem n30 (w : World) : Calls Try.prog 30 #[.pointer none] w fun e w' => e = .returned (.slice none 0 0) ∧ w = w' := by
  go_enter Try.func30, Try.ntmps30
  go_wp2
  go_ret
  exact ⟨rfl, rfl⟩
theorem n31 (w : World) : Calls Try.prog 31 #[.pointer none] w fun e w' => e = .returned (.int .i64 0) ∧ w = w' := by
  go_enter Try.func31, Try.ntmps31
  go_wp2
  go_ret
  exact ⟨rfl, rfl⟩

set_option maxRecDepth 100000 in
set_option maxHeartbeats 4000000 in
theorem cnil_any (o : COp) (w : World) (_ : True) : Calls Try.prog 6 #[.agg o.list.toArray] w fun e w' => e = .returned (.bool true) ∧ Fr [] w w' := by
  obtain ⟨kind, t, k, s, x⟩ := o
  show Calls Try.prog 6 #[.agg #[.int .i64 kind, .string t, .string k, .string s, .string x]] w _
  go_enter Try.func6, Try.ntmps6
  go_wp2_with fail
  refine (n26 _ _).mono ?_
  rintro e w1 ⟨rfl, rfl⟩
  go_wp2_with fail
  refine (n27 _ _ _).mono ?_
  rintro e w1 ⟨rfl, rfl⟩
  go_wp2_with fail
  refine (cget_nil _ _ _ _).mono ?_
  rintro e w1 ⟨rfl, hF⟩
  have hz := hF.size
  rw [size_alloc'] at hz
  have hlt : w.heap.size < w1.heap.size := by omega
  have hA := hF.obj (heap_alloc w (.cells #[.int .i64 kind, .string t, .string k, .string s, .string x] 52)) (by simp)
  have c1 : w1.cell? ⟨w.heap.size, 1, none⟩ = some (.string t) := cell_of hA 1
  have hFr : Fr [] w w1 := ((Fr.refl _ _).alloc _).trans hF
  clear hz hF
  go_wp2_with fail
  refine (counts_nil _ _).mono ?_
  rintro e w2 ⟨rfl, hF2⟩
  have hz2 := hF2.size
  have hlt2 : w.heap.size < w2.heap.size := by omega
  have hA2 := hF2.obj hA (by simp)
  have d1 : w2.cell? ⟨w.heap.size, 1, none⟩ = some (.string t) := cell_of hA2 1
  have d2 : w2.cell? ⟨w.heap.size, 2, none⟩ = some (.string k) := cell_of hA2 2
  have d3 : w2.cell? ⟨w.heap.size, 3, none⟩ = some (.string s) := cell_of hA2 3
  have d4 : w2.cell? ⟨w.heap.size, 4, none⟩ = some (.string x) := cell_of hA2 4
  have hFr2 := hFr.trans hF2
  clear hA hA2 hF2 hz2 c1 hFr hlt
  go_wp2_with (first
    | (go_at_call 28; refine (n28 _ _).mono ?_; rintro e w3 ⟨rfl, rfl⟩)
    | (go_at_call 29; refine (n29 _).mono ?_; rintro e w3 ⟨rfl, rfl⟩)
    | (go_at_call 30; refine (n30 _).mono ?_; rintro e w3 ⟨rfl, rfl⟩)
    | (go_at_call 22; refine (cput_nil _ _ _ _ _).mono ?_; rintro e w3 ⟨rfl, rfl⟩)
    | (go_at_call 23; refine (forget_nil _ _).mono ?_; rintro e w3 ⟨rfl, rfl⟩)
    | (go_at_call 31; refine (n31 _).mono ?_; rintro e w3 ⟨rfl, rfl⟩)
    | (go_at_call 24; refine (clen_nil _ _).mono ?_; rintro e w3 ⟨rfl, rfl⟩)
    | (go_at_call 19; refine (known_c _).mono ?_; rintro e w4 ⟨rfl, hF4⟩; have hFr4 := (hFr2.alloc _).trans hF4; clear hF4))
  go_ret
  exact ⟨rfl, hFr4⟩
end Go.Proofs.Ytoichcjlfpijeaa
