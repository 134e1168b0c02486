/- Parse: the call that it defers. -/
import Derived.Test.YtaniaknphjnlkaaGreatDoorLqKeyed
import Derived.Defers
import Derived.Recover
import Derived.Tactics
import Derived.Tactics2
import Derived.Laws.Pointers
namespace Go.Proofs.YtaniaknphjnlkaaGreatDoor
open Go.RowKit Go.Bl Go.Lq

theorem stop_yes (v : Value) (W : World) : (Instr.typeAssert (.iface 44 v) 20 44 true).run Tryz.prog W = .ok (.tuple #[v, .bool true]) W := by kernel_rfl
/-- What Parse answers in: three blocks of its own. -/
structure Outs (w : World) (H : Nat) (x0 x1 x2 x3 x4 x5 : Value) : Prop where
  q : w.heap[H]? = some (.cells #[x0, x1, x2, x3] 24 (0, 0))
  why : w.heap[H + 1]? = some (.cells #[x4] 25 (0, 0))
  at_ : w.heap[H + 2]? = some (.cells #[x5] 3 (0, 0))

abbrev outW (w : World) (H : Nat) (y0 y1 y2 y3 y4 y5 : Value) : World :=
  (((((w.setCell ⟨H, 0, none⟩ y0).setCell ⟨H, 1, none⟩ y1).setCell ⟨H, 2, none⟩ y2).setCell ⟨H, 3, none⟩ y3).setCell ⟨H + 1, 0, none⟩ y4).setCell ⟨H + 2, 0, none⟩ y5
theorem Outs.store {w : World} {H : Nat} {x0 x1 x2 x3 x4 x5 : Value} (h : Outs w H x0 x1 x2 x3 x4 x5) (y0 y1 y2 y3 y4 y5 : Value) :
    Outs (outW w H y0 y1 y2 y3 y4 y5) H y0 y1 y2 y3 y4 y5 ∧ Fr [H, H + 1, H + 2] w (outW w H y0 y1 y2 y3 y4 y5) := by
  have a0 := heap_setCell h.q 0 y0
  have a1 := heap_setCell a0 1 y1
  have a2 := heap_setCell a1 2 y2
  have a3 := heap_setCell a2 3 y3
  refine ⟨⟨?_, ?_, ?_⟩, ?_⟩
  · rw [heap_setCell_ne (by omega), heap_setCell_ne (by omega)]
    exact a3
  · rw [heap_setCell_ne (by omega)]
    refine (heap_setCell (cs := #[x4]) (T := 25) (fr := (0, 0)) ?_ 0 y4)
    rw [heap_setCell_ne (by omega), heap_setCell_ne (by omega), heap_setCell_ne (by omega), heap_setCell_ne (by omega)]
    exact h.why
  · refine (heap_setCell (cs := #[x5]) (T := 3) (fr := (0, 0)) ?_ 0 y5)
    rw [heap_setCell_ne (by omega), heap_setCell_ne (by omega), heap_setCell_ne (by omega), heap_setCell_ne (by omega), heap_setCell_ne (by omega)]
    exact h.at_
  · exact ((((((Fr.refl _ _).setCell (.inl (by simp)) _).setCell (.inl (by simp)) _).setCell (.inl (by simp)) _).setCell (.inl (by simp)) _).setCell (.inl (by simp)) _).setCell (.inl (by simp)) _
theorem Outs.fr {S : List Nat} {w w' : World} {H : Nat} {x0 x1 x2 x3 x4 x5 : Value} (h : Outs w H x0 x1 x2 x3 x4 x5) (hF : Fr S w w') (hS : ∀ i ∈ S, i ≠ H ∧ i ≠ H + 1 ∧ i ≠ H + 2) : Outs w' H x0 x1 x2 x3 x4 x5 :=
  ⟨hF.obj h.q (fun hm => (hS _ hm).1 rfl), hF.obj h.why (fun hm => (hS _ hm).2.1 rfl), hF.obj h.at_ (fun hm => (hS _ hm).2.2 rfl)⟩
theorem Outs.below {w w' : World} {H B : Nat} {x0 x1 x2 x3 x4 x5 : Value} (h : Outs w H x0 x1 x2 x3 x4 x5) (hB : Below B w w') (hH : H + 3 ≤ B) : Outs w' H x0 x1 x2 x3 x4 x5 :=
  ⟨(hB.block _ (by omega)).trans h.q, (hB.block _ (by omega)).trans h.why, (hB.block _ (by omega)).trans h.at_⟩

set_option maxRecDepth 100000 in
theorem catch_idle (H : Nat) (w : World) :
    CallsD Tryz.prog 19 #[.pointer (some ⟨H, 0, none⟩), .pointer (some ⟨H + 1, 0, none⟩), .pointer (some ⟨H + 2, 0, none⟩)] .returning w fun e u' w' => e = .returned (.tuple #[]) ∧ u' = .returning ∧ w' = w := by
  refine callsD_of_wpS Tryz.func19 rfl fun c₀ cs hu => ?_
  apply wpS_seq
  apply wpS_region
  simp [wpOpsS, go_sem, recoverD, hu, Tryz.ntmps19, Exit.thenS]
  apply wpS_seq
  apply wpS_region
  simp [wpOpsS, go_sem, recoverD, hu, Tryz.ntmps19, Exit.thenS]
  refine wpS_cond (t := false) (by simp [Act.eval, Array.replicate]) ?_
  simp only [Bool.false_eq_true, if_false]
  refine wpS_of_wp (wp_skip ?_)
  cases c₀
  simp_all [bodyPostS, results, Tryz.results19]

set_option maxRecDepth 100000 in
theorem catch_panicking (H : Nat) (p : Int) (older : List PanicEntry) (w : World) (x0 x1 x2 x3 x4 x5 : Value) (hO : Outs w H x0 x1 x2 x3 x4 x5) :
    CallsD Tryz.prog 19 #[.pointer (some ⟨H, 0, none⟩), .pointer (some ⟨H + 1, 0, none⟩), .pointer (some ⟨H + 2, 0, none⟩)] (.panicking ({ v := .iface 44 (.int .i64 p), recovered := false } :: older)) w fun e u' w' =>
      e = .returned (.tuple #[]) ∧ u' = .panicking ({ v := .iface 44 (.int .i64 p), recovered := true } :: older) ∧ Outs w' H (.slice none 0 0) (.int .i64 0) (.slice none 0 0) (.int .i64 0) (.int .i64 131) (.int .i64 p) ∧ Fr [H, H + 1, H + 2] w w' := by
  have k0 := cell_of hO.q 0
  have k1 := cell_of hO.q 1
  have k2 := cell_of hO.q 2
  have k3 := cell_of hO.q 3
  have k4 := cell_of hO.why 0
  have k5 := cell_of hO.at_ 0
  have z0 := frozen_of hO.q 0
  have z1 := frozen_of hO.q 1
  have z2 := frozen_of hO.q 2
  have z3 := frozen_of hO.q 3
  have z4 := frozen_of hO.why 0
  have z5 := frozen_of hO.at_ 0
  simp only [List.getElem?_toArray, List.getElem?_cons_zero, List.getElem?_cons_succ] at k0 k1 k2 k3 k4 k5
  refine callsD_of_wpS Tryz.func19 rfl fun c₀ cs hu => ?_
  apply wpS_seq
  apply wpS_region
  simp [wpOpsS, go_sem, recoverD, hu, Tryz.ntmps19, Exit.thenS]
  apply wpS_seq
  apply wpS_region
  simp [wpOpsS, go_sem, recoverD, hu, Tryz.ntmps19, Exit.thenS]
  refine wpS_cond (t := true) (by simp [Act.eval, Array.replicate]) ?_
  simp only [if_true]
  refine wpS_of_wp ?_
  simp only [Array.replicate, List.replicate, List.setIfInBounds_toArray, List.set_cons_zero, List.set_cons_succ, List.append_toArray, List.cons_append, List.nil_append]
  have hta : ∀ w, (Instr.typeAssert (.iface 44 (.int .i64 p)) 20 44 true).run Tryz.prog w = .ok (.tuple #[.int .i64 p, .bool true]) w := stop_yes _
  have HS := Lib.hid (hO.store (.slice none 0 0) (.int .i64 0) (.slice none 0 0) (.int .i64 0) (.int .i64 131) (.int .i64 p))
  clear hO
  go_wp2
  cases c₀
  simp_all [bodyPostS, results, Tryz.results19]
  exact HS.out
end Go.Proofs.YtaniaknphjnlkaaGreatDoor
