/- strings.NewReplacer, at the three signs that are quoted. -/
import Derived.Test.YtdhmloejgoacaaaGreatDoorLqOnce
import Derived.Test.YtdhmloejgoacaaaGreatDoorMw05
set_option linter.unusedVariables false
set_option linter.unusedSimpArgs false
namespace Go.Proofs.YtdhmloejgoacaaaGreatDoor
open Go.RowKit Go.Bl Go.Lq

def sixStr : List Value := [.string ⟨#[34]⟩, .string ⟨#[92, 34]⟩, .string ⟨#[92]⟩, .string ⟨#[92, 92]⟩, .string ⟨#[10]⟩, .string ⟨#[92, 110]⟩]
theorem infoStr : (Tryz.prog.info? 9).map (fun i => (i.zero, i.size, i.bytes)) = some (some (.string ⟨#[]⟩), 1, 16) := by kernel_rfl
/-- A replacer that has not been built. -/
structure Unbuilt (w : World) (R : Nat) : Prop where
  ex : ∃ O cap, w.heap[R]? = some (rcells 0 0 (.int .u32 0) .nilIface (.slice (some ⟨O, 0, none⟩) 6 cap)) ∧ w.ownsRow 0 9 1 (.slice (some ⟨O, 0, none⟩) 6 cap) 6 sixStr ∧ R ≠ O

set_option maxRecDepth 100000 in
set_option maxHeartbeats 1600000 in
theorem newReplacer_any (A : Nat) (w : World) (hA : w.heap[A]? = some (.cells sixStr.toArray 9 (0, 0))) :
    Calls Tryz.prog 124 #[.slice (some ⟨A, 0, none⟩) 6 6] w fun e w' => ∃ R, e = .returned (.pointer (some ⟨R, 0, none⟩)) ∧ Unbuilt w' R ∧ Fr [] w w' ∧ w.heap.size ≤ R := by
  obtain ⟨i0, hi0, hz0, hz1, hz2⟩ := info_parts infoStr
  have hn : ∀ j u, sixStr[j]? = some u → w.cell? ((⟨A, 0, none⟩ : Addr).add j) = some u := World.news_of_block hA
  have HN := Lib.hid hn
  clear hn hA
  go_enter Tryz.func124, Tryz.ntmps124
  go_wp2_with (at_builtin; refine wpList_append_lies w rfl (.const (.slice none 0 0)) (.tmp 8) 107 rfl 0 9 i0 (.string ⟨#[]⟩) 1 16 Tryz.underlying107 hi0 hz0 hz1 hz2 rfl (by omega) (.slice none 0 0) 0 [] rfl (World.ownsRow_nil _ _ _ _) ⟨A, 0, none⟩ 6 6 sixStr (by simp [Act.eval]) rfl HN.out (by simp [sixStr, Value.oneCell']) (by omega) (by unfold maxLen; omega) (by omega) (by omega) w.heap.size rfl ?_; intro O cap w1 hown hgrow hat hlt; have hG : Fr [] w w1 := fr_grown hgrow)
  go_ret
  exact ⟨w1.heap.size, rfl, ⟨O, cap, heap_alloc w1 _, hown.alloc _, by omega⟩, hG.alloc _, hG.size⟩
end Go.Proofs.YtdhmloejgoacaaaGreatDoor
