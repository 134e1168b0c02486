/- The reference's cache, empty: first, count, Put, Get. -/
import Derived.Test.YtoichcjlfpijeaaCRef
import Derived.Laws.AppendOwnNone
import Derived.Maps.AppendAt
namespace Go.Proofs.Ytoichcjlfpijeaa
open Go.RowKit Go.Bl

theorem info131 : (Try.prog.info? 131).map (fun i => (i.zero, i.size, i.bytes)) = some (some (.agg #[.string ⟨#[]⟩, .string ⟨#[]⟩, .string ⟨#[]⟩, .string ⟨#[]⟩]), 4, 64) := by kernel_rfl
theorem info133 : (Try.prog.info? 133).map (fun i => (i.zero, i.size, i.bytes)) = some (some (.agg #[.string ⟨#[]⟩, .int .i64 0, .int .i64 0]), 3, 32) := by kernel_rfl
def R1 (w : World) (r : Nat) (t : ByteArray) : Prop := ∃ b, w.heap[r]? = some (.cells #[.int .i64 1, .slice (some ⟨b, 0, none⟩) 1 1, .slice none 0 0] 58 (0, 0)) ∧ w.cell? ⟨b, 0, none⟩ = some (.string t)

theorem rfirst_0 {w : World} {r : Nat} (h : R0 w r) (t k s x : ByteArray) :
    Calls Try.prog 71 #[pp r, .agg #[.string t, .string k, .string s, .string x]] w fun e w' => e = .returned (.tuple #[]) ∧ R1 w' r t ∧ Fr [r] w w' := by
  obtain ⟨i0, hi0, hz0, hz1, hz2⟩ := info_parts info131
  obtain ⟨W, hW⟩ : ∃ W, (w.alloc (.cells #[.string t, .string k, .string s, .string x] 131)).alloc (.cells #[.string t, .string k, .string s, .string x] 131) = W := ⟨_, rfl⟩
  have hF : Fr [] w W := by rw [← hW]; exact ((Fr.refl _ _).alloc _).alloc _
  have hb : W.heap[w.heap.size + 1]? = some (.cells #[.string t, .string k, .string s, .string x] 131 (0, 0)) := by
    have := heap_alloc (w.alloc (.cells #[.string t, .string k, .string s, .string x] 131)) (.cells #[.string t, .string k, .string s, .string x] 131)
    rw [size_alloc', hW] at this
    exact this
  have hown : W.ownsRow 0 131 4 (.slice (some ⟨w.heap.size + 1, 0, none⟩) 1 1) 1 [.string t, .string k, .string s, .string x] :=
    ⟨rfl, .inr ⟨_, 1, _, rfl, Nat.zero_le _, hb, Nat.le_refl _, by decide, rfl, rfl⟩⟩
  have hr := hF.obj h (by simp)
  have hlt := lt_of_obj h
  obtain ⟨c0, c1, c2, fz⟩ := r0_cells hr
  have HP : Hid (R1 (W.setCell ⟨r, 1, none⟩ (.slice (some ⟨w.heap.size + 1, 0, none⟩) 1 1)) r t ∧ Fr [r] w (W.setCell ⟨r, 1, none⟩ (.slice (some ⟨w.heap.size + 1, 0, none⟩) 1 1))) := by
    refine ⟨⟨w.heap.size + 1, heap_setCell hr 1 _, ?_⟩, (hF.mono (by simp)).setCell1 1 _⟩
    exact (sc_other _ _ (by intro e; simp at e)).trans (cell_of hb 0)
  have HO := Lib.hid hown
  clear h hF hb hown hr
  go_enter Try.func71, Try.ntmps71
  go_wp2_with (at_builtin; refine wpList_append_own_none rfl _ _ 55 rfl 0 131 i0 4 Try.underlying55 hi0 _ 1 _ rfl HO.out rfl ?_)
  go_end0
  exact ⟨rfl, HP.out⟩
end Go.Proofs.Ytoichcjlfpijeaa
