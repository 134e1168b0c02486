/- The reference's cache, empty: what its calls do. -/
import Derived.Test.YtoichcjlfpijeaaCAll
import Derived.OwnWalk
namespace Go.Proofs.Ytoichcjlfpijeaa
open Go.RowKit Go.Bl

def R0 (w : World) (r : Nat) : Prop := w.heap[r]? = some (.cells #[.int .i64 1, .slice none 0 0, .slice none 0 0] 58 (0, 0))
theorem r0_cells {w : World} {r : Nat} (h : R0 w r) : w.cell? ⟨r, 0, none⟩ = some (.int .i64 1) ∧ w.cell? ⟨r, 1, none⟩ = some (.slice none 0 0) ∧ w.cell? ⟨r, 2, none⟩ = some (.slice none 0 0) ∧ ∀ o, w.frozen? ⟨r, o, none⟩ = false :=
  ⟨cell_of h 0, cell_of h 1, cell_of h 2, frozen_of h⟩

theorem rlen_0 {w : World} {r : Nat} (h : R0 w r) (t : ByteArray) : Calls Try.prog 67 #[pp r, .string t] w fun e w' => e = .returned (.int .i64 0) ∧ w = w' := by
  obtain ⟨c0, c1, c2, fz⟩ := r0_cells h
  clear h
  go_enter Try.func67, Try.ntmps67
  go_wp2
  go_loop [5, 6] (fun n i => n = .int .i64 0 ∧ i = .int .i64 0) (fun _ _ => 0)
  case atStart => exact ⟨rfl, rfl⟩
  case round =>
    obtain ⟨rfl, rfl⟩ := hrel
    go_wp2
    go_ret
    exact ⟨rfl, rfl⟩
theorem rten_0 {w : World} {r : Nat} (h : R0 w r) : Calls Try.prog 68 #[pp r] w fun e w' => e = .returned (.int .i64 0) ∧ w = w' := by
  obtain ⟨c0, c1, c2, fz⟩ := r0_cells h
  clear h
  go_enter Try.func68, Try.ntmps68
  go_wp2
  go_loop [3, 4] (fun n i => n = .int .i64 0 ∧ i = .int .i64 0) (fun _ _ => 0)
  case atStart => exact ⟨rfl, rfl⟩
  case round =>
    obtain ⟨rfl, rfl⟩ := hrel
    go_wp2
    go_ret
    exact ⟨rfl, rfl⟩
theorem rfind_0 {w : World} {r : Nat} (h : R0 w r) (t k : ByteArray) : Calls Try.prog 69 #[pp r, .string t, .string k] w fun e w' => e = .returned (.int .i64 (-1)) ∧ w = w' := by
  obtain ⟨c0, c1, c2, fz⟩ := r0_cells h
  clear h
  go_enter Try.func69, Try.ntmps69
  go_wp2
  go_loop [7] (fun i => i = .int .i64 0) (fun _ => 0)
  case atStart => exact rfl
  case round =>
    subst hrel
    go_wp2
    go_ret
    exact ⟨rfl, rfl⟩
theorem rforget_0 {w : World} {r : Nat} (h : R0 w r) (t : ByteArray) : Calls Try.prog 50 #[pp r, .string t] w fun e w' => e = .returned (.int .i64 0) ∧ Fr [r] w w' := by
  obtain ⟨c0, c1, c2, fz⟩ := r0_cells h
  clear h
  go_enter Try.func50, Try.ntmps50
  go_wp2
  go_loop [5, 6] (fun l i => l = .slice none 0 0 ∧ i = .int .i64 0) (fun _ _ => 0)
  case atStart => exact ⟨rfl, rfl⟩
  case round =>
    obtain ⟨rfl, rfl⟩ := hrel
    go_wp2
    go_ret
    exact ⟨rfl, (Fr.refl _ _).setCell1 _ _⟩
end Go.Proofs.Ytoichcjlfpijeaa
