/- (Chapter 15's own: the errors of strconv apart.) A number is read. -/
import Derived.Test.YtdhmloejgoacaaaGreatDoorShelf
import Derived.Test.YtdhmloejgoacaaaGreatDoorMw05
import Derived.Test.YtdhmloejgoacaaaGreatDoorLqNumP
import Derived.Shelf.Strings.SlTrimAscii
import Derived.Shelf.Strconv.AtoiAll
import Derived.Lib.AtoiErrMem
set_option linter.unusedVariables false
set_option linter.unusedSimpArgs false
namespace Go.Proofs.YtdhmloejgoacaaaGreatDoor
open Go.RowKit Go.Bl Go.Lq

theorem pow10_at : Tryz.prog.globalNamed "internal/strconv.uint64pow10" = some 5 := by kernel_rfl
/-- What the package's variables hold. -/
structure GV (w : World) : Prop where
  tab : Lib.TabIs Tryz.prog w "internal/strconv.uint64pow10" .u64 Lib.pow10Tab
  utf : Lib.Utf8Tabs 1 2 w
theorem cell_below {B : Nat} {w w' : World} (h : Below B w w') {a : Addr} (ha : a.block < B) : w'.cell? a = w.cell? a := h.cell ha
theorem GV.below {B : Nat} {w w' : World} (h : GV w) (hB : Below B w w') (h8 : 8 ≤ B) : GV w' := by
  obtain ⟨h4, h3⟩ := h
  refine ⟨?_, ?_⟩
  · unfold Lib.TabIs World.var? at h4 ⊢
    rw [pow10_at] at h4 ⊢
    simp only [Option.bind_some] at h4 ⊢
    rw [hB.block _ (by omega)]
    exact h4
  · refine ⟨fun c hc => ?_, fun i hi => ⟨?_, ?_⟩⟩
    · rw [cell_below hB (by dsimp only; omega)]; exact h3.1 c hc
    · rw [cell_below hB (by dsimp only; omega)]; exact (h3.2 i hi).1
    · rw [cell_below hB (by dsimp only; omega)]; exact (h3.2 i hi).2
theorem fr_new {w w' : World} (h : Below w.heap.size w w') (S : List Nat) : Fr S w w' := ⟨h.os, h.tape, h.output, h.size, fun i hi _ => h.block i hi⟩

theorem trimDigits (m : Bs) (w : World) : Calls Tryz.prog 99 #[.string ⟨m.toArray⟩, .string ⟨#[48, 49, 50, 51, 52, 53, 54, 55, 56, 57]⟩] w fun e w' => e = .returned (.string ⟨(m.dropWhile isDigit).toArray⟩) ∧ Fr [] w w' :=
  (Any.strings_TrimLeft_laid Tryz.lays161 (by kernel_rfl) ⟨m.toArray⟩ ⟨#[48, 49, 50, 51, 52, 53, 54, 55, 56, 57]⟩ w (by decide) (ascii_of_all (by decide))).mono fun e w' h => by
    refine ⟨?_, fr_new h.2 _⟩
    rw [h.1]
    unfold Lib.trimLeftS
    show Ending.returned (.string ⟨(m.dropWhile (([48, 49, 50, 51, 52, 53, 54, 55, 56, 57] : Bs).contains ·)).toArray⟩) = _
    rw [trim_digits]

/-- What the errors of strconv hold: wanted only where a number can not be read. -/
structure GE (w : World) : Prop where
  syn : ∃ ev, w.cell? ⟨3, 0, none⟩ = some ev ∧ (ev = .nilIface ∨ ∃ a b, ev = .iface a b)
  ran : ∃ ev, w.cell? ⟨4, 0, none⟩ = some ev ∧ (ev = .nilIface ∨ ∃ a b, ev = .iface a b)
theorem GE.below {B : Nat} {w w' : World} (h : GE w) (hB : Below B w w') (h8 : 8 ≤ B) : GE w' := by
  obtain ⟨⟨a, h1, k1⟩, ⟨c, h2, k2⟩⟩ := h
  refine ⟨⟨a, ?_, k1⟩, ⟨c, ?_, k2⟩⟩
  · rw [cell_below hB (by dsimp only; omega)]; exact h1
  · rw [cell_below hB (by dsimp only; omega)]; exact h2
end Go.Proofs.YtdhmloejgoacaaaGreatDoor
