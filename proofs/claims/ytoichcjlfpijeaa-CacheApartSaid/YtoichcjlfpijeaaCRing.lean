/- The ring of a list by keys: out, first. -/
import Derived.Test.YtoichcjlfpijeaaProg
import Derived.Test.YtoichcjlfpijeaaSMap
import Derived.Deep.QuietTactic
import Derived.BigQuiet
import Derived.RegionTactic
import Derived.ChangeAlike
import Derived.StillTailTactics
import Derived.Lib.Hide
import Derived.Outline
namespace Go.Proofs.Ytoichcjlfpijeaa
open Go.RowKit Go.Bl

theorem sc_other (w : World) {a b : Addr} (v : Value) (h : a ≠ b) : (w.setCell a v).cell? b = w.cell? b := by apply World.cell?_setCell_other; exact h
theorem sc_same {w : World} {a : Addr} {u : Value} (v : Value) (h : w.cell? a = some u) : (w.setCell a v).cell? a = some v := by apply World.cell?_setCell_same; exact h
theorem out_any (l : Value) (p : Nat) (x y : Addr) (w : World) (hx : w.cell? ⟨p, 3, none⟩ = some (.pointer (some x))) (hy : w.cell? ⟨p, 4, none⟩ = some (.pointer (some y)))
    (sx : x.spot = none) (sy : y.spot = none) (cx : (w.cell? ⟨x.block, x.off + 4, none⟩).isSome = true) (cy : (w.cell? ⟨y.block, y.off + 3, none⟩).isSome = true)
    (hne : (⟨x.block, x.off + 4, none⟩ : Addr) ≠ ⟨y.block, y.off + 3, none⟩) (fx : w.frozen? ⟨x.block, x.off + 4, none⟩ = false) (fy : w.frozen? ⟨y.block, y.off + 3, none⟩ = false) :
    Calls Try.prog 73 #[l, .pointer (some ⟨p, 0, none⟩)] w fun e w' => e = .returned (.tuple #[]) ∧
      ∃ j, w' = ((w.setCell ⟨x.block, x.off + 4, none⟩ (.pointer (some y))).setCell ⟨y.block, y.off + 3, none⟩ (.pointer (some x))).drewN j := by
  obtain ⟨xb, xo, xs⟩ := x
  obtain ⟨yb, yo, ys⟩ := y
  dsimp only at *
  subst sx
  subst sy
  obtain ⟨vx, cx⟩ := Option.isSome_iff_exists.1 cx
  obtain ⟨vy, cy⟩ := Option.isSome_iff_exists.1 cy
  have g1 := (sc_other w (.pointer (some ⟨yb, yo, none⟩)) hne).trans cy
  have g2 := (sc_other w (.pointer (some ⟨xb, xo, none⟩)) (Ne.symm hne)).trans cx
  clear hne
  go_enter Try.func73, Try.ntmps73
  go_wp2
  go_region
  go_wp2
  go_end0
  exact ⟨rfl, 1, rfl⟩

theorem first_any (lb p : Nat) (y : Addr) (w : World) (hp : p ≠ lb) (c3 : (w.cell? ⟨p, 3, none⟩).isSome = true) (c4 : (w.cell? ⟨p, 4, none⟩).isSome = true) (h6 : w.cell? ⟨lb, 6, none⟩ = some (.pointer (some y)))
    (sy : y.spot = none) (cy : (w.cell? ⟨y.block, y.off + 3, none⟩).isSome = true) (yp : y.block ≠ p) (y6 : (⟨lb, 6, none⟩ : Addr) ≠ ⟨y.block, y.off + 3, none⟩)
    (fp : ∀ o, w.frozen? ⟨p, o, none⟩ = false) (fl : w.frozen? ⟨lb, 6, none⟩ = false) (fy : w.frozen? ⟨y.block, y.off + 3, none⟩ = false) :
    Calls Try.prog 74 #[.pointer (some ⟨lb, 0, none⟩), .pointer (some ⟨p, 0, none⟩)] w fun e w' => e = .returned (.tuple #[]) ∧
      ∃ j, w' = ((((w.setCell ⟨p, 3, none⟩ (.pointer (some ⟨lb, 2, none⟩))).setCell ⟨p, 4, none⟩ (.pointer (some y))).setCell ⟨lb, 6, none⟩ (.pointer (some ⟨p, 0, none⟩))).setCell ⟨y.block, y.off + 3, none⟩ (.pointer (some ⟨p, 0, none⟩))).drewN j := by
  obtain ⟨yb, yo, ys⟩ := y
  dsimp only at *
  subst sy
  obtain ⟨v3, c3⟩ := Option.isSome_iff_exists.1 c3
  obtain ⟨v4, c4⟩ := Option.isSome_iff_exists.1 c4
  obtain ⟨vy, cy⟩ := Option.isSome_iff_exists.1 cy
  have f3 := fp 3
  have f4 := fp 4
  have a1 : (w.setCell ⟨p, 3, none⟩ (.pointer (some ⟨lb, 2, none⟩))).cell? ⟨p, 4, none⟩ = some v4 := (sc_other w _ (by simp)).trans c4
  have a2 : (w.setCell ⟨p, 4, none⟩ (.pointer (some ⟨yb, yo, none⟩))).cell? ⟨p, 3, none⟩ = some v3 := (sc_other w _ (by simp)).trans c3
  have b3 : ((w.setCell ⟨p, 3, none⟩ (.pointer (some ⟨lb, 2, none⟩))).setCell ⟨p, 4, none⟩ (.pointer (some ⟨yb, yo, none⟩))).cell? ⟨p, 3, none⟩ = some (.pointer (some ⟨lb, 2, none⟩)) := (sc_other _ _ (by simp)).trans (sc_same _ c3)
  have b4 : ((w.setCell ⟨p, 3, none⟩ (.pointer (some ⟨lb, 2, none⟩))).setCell ⟨p, 4, none⟩ (.pointer (some ⟨yb, yo, none⟩))).cell? ⟨p, 4, none⟩ = some (.pointer (some ⟨yb, yo, none⟩)) := sc_same _ a1
  have b6 : ((w.setCell ⟨p, 3, none⟩ (.pointer (some ⟨lb, 2, none⟩))).setCell ⟨p, 4, none⟩ (.pointer (some ⟨yb, yo, none⟩))).cell? ⟨lb, 6, none⟩ = some (.pointer (some ⟨yb, yo, none⟩)) := (sc_other _ _ (by simp [hp])).trans ((sc_other _ _ (by simp [hp])).trans h6)
  have by3 : ((w.setCell ⟨p, 3, none⟩ (.pointer (some ⟨lb, 2, none⟩))).setCell ⟨p, 4, none⟩ (.pointer (some ⟨yb, yo, none⟩))).cell? ⟨yb, yo + 3, none⟩ = some vy := (sc_other _ _ (by simp [Ne.symm yp])).trans ((sc_other _ _ (by simp [Ne.symm yp])).trans cy)
  have d3 := (sc_other _ (.pointer (some ⟨p, 0, none⟩)) y6).trans by3
  have d6 := (sc_other _ (.pointer (some ⟨p, 0, none⟩)) (Ne.symm y6)).trans b6
  clear fp hp yp y6
  go_enter Try.func74, Try.ntmps74
  go_wp2
  go_region
  go_wp2
  go_region
  go_wp2
  go_end0
  exact ⟨rfl, 2, rfl⟩
end Go.Proofs.Ytoichcjlfpijeaa
