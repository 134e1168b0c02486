/- The list by keys: a new one. -/
import Derived.Test.YtoichcjlfpijeaaCLru3
namespace Go.Proofs.Ytoichcjlfpijeaa
open Go.RowKit Go.Bl

theorem new_bad (n : Int) (h : n < 1) (w : World) : Calls Try.prog 55 #[.int .i64 n] w fun e w' => e = .returned (.pointer none) ∧ w = w' := by
  go_enter Try.func55, Try.ntmps55
  go_wp2
  go_ret
  exact ⟨rfl, rfl⟩
theorem new_lru (n : Int) (h : 1 ≤ n) (w : World) : Calls Try.prog 55 #[.int .i64 n] w fun e w' => ∃ l m, e = .returned (pp l) ∧ LruO w' l m n [] ∧ Fr [] w w' ∧ w.heap.size ≤ l ∧ w.heap.size ≤ m := by
  have hmm := @run_makeMap Try.prog
  have h' : ¬ n < 1 := by omega
  have hz : (w.alloc (.map #[] 0)).heap.size = w.heap.size + 1 := by simp
  obtain ⟨W, hW⟩ : ∃ W, (w.alloc (.map #[] 0)).alloc (.cells #[.int .i64 n, .map (some w.heap.size), .string ⟨#[]⟩, .string ⟨#[]⟩, .string ⟨#[]⟩, .pointer none, .pointer none] 139) = W := ⟨_, rfl⟩
  have hb : W.heap[w.heap.size + 1]? = some (.cells #[.int .i64 n, .map (some w.heap.size), .string ⟨#[]⟩, .string ⟨#[]⟩, .string ⟨#[]⟩, .pointer none, .pointer none] 139 (0, 0)) := by
    have := heap_alloc (w.alloc (.map #[] 0)) (.cells #[.int .i64 n, .map (some w.heap.size), .string ⟨#[]⟩, .string ⟨#[]⟩, .string ⟨#[]⟩, .pointer none, .pointer none] 139)
    rw [hz, hW] at this
    exact this
  have hM : MapAt W w.heap.size (fun _ => none) 0 := by rw [← hW]; exact (MapAt.made w).fr ((Fr.refl [] _).alloc _) (by simp)
  have hF : Fr [] w W := by rw [← hW]; exact ((Fr.refl _ _).alloc _).alloc _
  have c0 : W.cell? ⟨w.heap.size + 1, 0, none⟩ = some (.int .i64 n) := cell_of hb 0
  have c1 : W.cell? ⟨w.heap.size + 1, 1, none⟩ = some (.map (some w.heap.size)) := cell_of hb 1
  have c5 : W.cell? ⟨w.heap.size + 1, 5, none⟩ = some (.pointer none) := cell_of hb 5
  have c6 : W.cell? ⟨w.heap.size + 1, 6, none⟩ = some (.pointer none) := cell_of hb 6
  have fz := frozen_of hb
  have d6 : (W.setCell ⟨w.heap.size + 1, 5, none⟩ (.pointer (some ⟨w.heap.size + 1, 2, none⟩))).cell? ⟨w.heap.size + 1, 6, none⟩ = some (.pointer none) := (sc_other _ _ (by simp)).trans c6
  have HP : Hid (∀ j, LruO (((W.setCell ⟨w.heap.size + 1, 5, none⟩ (.pointer (some ⟨w.heap.size + 1, 2, none⟩))).setCell ⟨w.heap.size + 1, 6, none⟩ (.pointer (some ⟨w.heap.size + 1, 2, none⟩))).drewN j) (w.heap.size + 1) w.heap.size n [] ∧
      Fr [] w (((W.setCell ⟨w.heap.size + 1, 5, none⟩ (.pointer (some ⟨w.heap.size + 1, 2, none⟩))).setCell ⟨w.heap.size + 1, 6, none⟩ (.pointer (some ⟨w.heap.size + 1, 2, none⟩))).drewN j)) := by
    intro j
    have hq : Fr [w.heap.size + 1] W (((W.setCell ⟨w.heap.size + 1, 5, none⟩ (.pointer (some ⟨w.heap.size + 1, 2, none⟩))).setCell ⟨w.heap.size + 1, 6, none⟩ (.pointer (some ⟨w.heap.size + 1, 2, none⟩))).drewN j) := (((Fr.refl _ W).setCell1 5 _).setCell1 6 _).drewN j
    have hL : Low W (((W.setCell ⟨w.heap.size + 1, 5, none⟩ (.pointer (some ⟨w.heap.size + 1, 2, none⟩))).setCell ⟨w.heap.size + 1, 6, none⟩ (.pointer (some ⟨w.heap.size + 1, 2, none⟩))).drewN j) := (((Low.refl W).setCell (by dsimp only; omega) _).setCell (by dsimp only; omega) _).drewN j
    refine ⟨⟨hL.cell _ _ _ (by omega) c0, hL.cell _ _ _ (by omega) c1, ⟨fun o => (hL.fz _).trans (fz o), ⟨?_, ?_⟩, by simp, by simp⟩, by simp, ?_⟩, hF.new hq (by simp)⟩
    · exact sc_same _ d6
    · exact (sc_other _ _ (by simp)).trans (sc_same _ c5)
    · exact hM.fr hq (by simp)
  clear hb hM hF
  go_enter Try.func55, Try.ntmps55
  go_wp2

  clear hW
  go_region
  all_goals
    go_wp2
    go_ret
    exact ⟨_, _, rfl, (HP.out 1).1, (HP.out 1).2, by omega, by omega⟩
end Go.Proofs.Ytoichcjlfpijeaa
