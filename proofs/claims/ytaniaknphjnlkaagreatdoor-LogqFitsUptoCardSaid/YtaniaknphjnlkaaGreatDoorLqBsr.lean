/- The replacer's table, once it is built; what Replace begins with. -/
import Derived.Test.YtaniaknphjnlkaaGreatDoorLqBuild
namespace Go.Proofs.YtaniaknphjnlkaaGreatDoor
open Go.RowKit Go.Bl Go.Lq

structure BSR (w : World) (RB base : Nat) : Prop where
  ex : ∃ T M cap, w.heap[RB]? = some (.cells T 176 (0, 0)) ∧ T.size = 257 ∧ T[256]? = some (.slice (some ⟨M, 0, none⟩) 3 cap) ∧ base ≤ M ∧ (∀ j u, (strs 3)[j]? = some u → w.cell? ⟨M, j, none⟩ = some u) ∧
    (∀ i, i < 256 → (∀ j, j < 3 → i ≠ sgO j) → T[i]? = some (.slice none 0 0)) ∧
    (∀ k, k < 3 → ∃ K c, T[sgO k]? = some (.slice (some ⟨K, 0, none⟩) 2 c) ∧ base ≤ K ∧ ∀ j u, (sgR k)[j]? = some u → w.cell? ⟨K, j, none⟩ = some (.int .u8 (u.toNat : Int)))
  base : base ≤ RB
theorem BSR.fr {w w' : World} {RB base : Nat} {S : List Nat} (h : BSR w RB base) (hF : Fr S w w') (hS : ∀ i ∈ S, i < base) : BSR w' RB base := by
  obtain ⟨T, M, cap, h1, h2, h3, h4, h5, h6, h7⟩ := h.ex
  have hb := h.base
  refine ⟨⟨T, M, cap, hF.obj h1 (fun hm => by have := hS _ hm; omega), h2, h3, h4, fun j u hu => cell_frS hF (h5 j u hu) (fun hm => by have := hS _ hm; simp only at this; omega), h6, fun k hk => ?_⟩, hb⟩
  obtain ⟨K, c, k1, k2, k3⟩ := h7 k hk
  exact ⟨K, c, k1, k2, fun j u hu => cell_frS hF (k3 j u hu) (fun hm => by have := hS _ hm; simp only at this; omega)⟩
theorem Bld.bsr {w w1 : World} {RB : Nat} (h : Bld w w1 RB 3) : BSR w1 RB w.heap.size := by
  obtain ⟨T, M, cap, h1, h2, h3, h4, h5, h6, h7⟩ := h.ex
  have hM : w.heap.size ≤ M ∧ M < w1.heap.size := row_old h4 (k := M) rfl
  refine ⟨⟨T, M, cap, h1, h2, h3, hM.1, fun j u hu => ?_, h5, fun k hk => ?_⟩, h.base⟩
  · have := h4.cells (g := M) rfl j u hu
    rw [add_at'] at this
    exact this
  · obtain ⟨K, c, k1, k2, k3, k4, k5, k6⟩ := h6 k hk
    exact ⟨K, c, k1, k2, k6⟩

def OncePost (w : World) (R : Nat) (w' : World) : Prop := ∃ RB, Fr [R] w w' ∧ w'.heap[R]? = some (rcells 0 1 (.int .u32 0) (.iface 177 (.pointer (some ⟨RB, 0, none⟩))) (.slice none 0 0)) ∧ BSR w' RB w.heap.size
set_option maxRecDepth 100000 in
theorem buildOnce_any (R O cap : Nat) (w : World) (hb : w.heap[R]? = some (rcells 0 1 (.int .u32 0) .nilIface (.slice (some ⟨O, 0, none⟩) 6 cap))) (ho : w.ownsRow 0 9 1 (.slice (some ⟨O, 0, none⟩) 6 cap) 6 sixStr) :
    Calls Tryz.prog 107 #[.pointer (some ⟨R, 0, none⟩)] w fun e w' => e = .returned (.tuple #[]) ∧ OncePost w R w' := by
  have hB := build_any R O cap 0 1 _ _ w hb ho
  have hRl := lt_of_obj hb
  go_enter Tryz.func107, Tryz.ntmps107
  go_wp2_with fail
  refine hB.mono ?_
  rintro e w1 ⟨RB, rfl, h1⟩
  have hb1 := h1.fr.obj hb (by simp)
  have c3 := cell_of hb1 3
  have z3 := frozen_of hb1 3
  have c4 := cell_of hb1 4
  have z4 := frozen_of hb1 4
  simp only [List.getElem?_toArray, List.getElem?_cons_zero, List.getElem?_cons_succ] at c3 c4
  have H1 := Lib.hid h1
  clear h1
  go_wp2_with fail
  have h2 := heap_setCell (heap_setCell hb1 3 (.iface 177 (.pointer (some ⟨RB, 0, none⟩)))) 4 (.slice none 0 0)
  have hF : Fr [R] w1 _ := ((Fr.refl [R] w1).setCell1 3 (.iface 177 (.pointer (some ⟨RB, 0, none⟩)))).setCell1 4 (.slice none 0 0)
  exact ⟨rfl, .tuple #[], by simp [results, Tryz.results107, go_sem], rfl, RB, (H1.out.fr.mono (by simp)).trans hF, h2, H1.out.bsr.fr hF (by simp; exact hRl)⟩

/-- What byteStringReplacer.Replace answers. -/
def ReplC : Prop := ∀ (RB base : Nat) (s : ByteArray) (w : World), s.size ≤ 1024 → BSR w RB base → Calls Tryz.prog 189 #[.pointer (some ⟨RB, 0, none⟩), .string s] w fun e w' => e = .returned (.string ⟨(s.data.toList.flatMap esc).toArray⟩) ∧ Fr [] w w'
set_option maxRecDepth 100000 in
theorem replace_any (hC : ReplC) (R : Nat) (s : ByteArray) (hs : s.size ≤ 1024) (w : World) (hU : Unbuilt w R) :
    Calls Tryz.prog 86 #[.pointer (some ⟨R, 0, none⟩), .string s] w fun e w' => e = .returned (.string ⟨(s.data.toList.flatMap esc).toArray⟩) ∧ Fr [R] w w' := by
  have hmf : ∀ (fn : Fn) (first cap : Array Value) (w : World), (Instr.makeFunc fn first cap).run Tryz.prog w = .ok (.func fn first cap) w := fun _ _ _ _ => rfl
  obtain ⟨O, cap, hb, ho, hRO⟩ := hU.ex
  have hRl := lt_of_obj hb
  have hF0 : Fr [R] w (w.setCell ⟨R, 1, none⟩ (.int .i32 1)) := (Fr.refl _ _).setCell1 1 _
  have hD := do_first R _ _ _ w (OncePost (w.setCell ⟨R, 1, none⟩ (.int .i32 1)) R) hb (buildOnce_any R O cap _ (heap_setCell hb 1 (.int .i32 1)) (row_fr ho hF0 (fun k hk => by
    obtain rfl : O = k := by simpa [Value.ownBlock] using hk
    simpa using Ne.symm hRO))) (fun w' ⟨RB, _, h, _⟩ => ⟨_, _, _, h⟩)
  go_enter Tryz.func86, Tryz.ntmps86
  go_wp2_with fail
  refine hD.mono ?_
  rintro e w2 ⟨rfl, w1, ⟨RB, hF1, hb1, hB⟩, rfl⟩
  have hF2 : Fr [R] w1 ((w1.drew.setCell ⟨R, 0, none⟩ (.int .u32 1)).setCell ⟨R, 1, none⟩ (.int .i32 0)) := (((Fr.refl [R] w1).drew).setCell1 0 _).setCell1 1 _
  have hB2 := hB.fr hF2 (by simp [World.setCell]; exact hRl)
  have hb2 := heap_setCell (heap_setCell (w := w1.drew) hb1 0 (.int .u32 1)) 1 (.int .i32 0)
  have hFF := (hF0.trans hF1).trans hF2
  obtain ⟨W2, hW2⟩ : ∃ W2, (w1.drew.setCell ⟨R, 0, none⟩ (.int .u32 1)).setCell ⟨R, 1, none⟩ (.int .i32 0) = W2 := ⟨_, rfl⟩
  rw [hW2] at hB2 hb2 hFF ⊢
  have c3 := cell_of hb2 3
  simp only [List.setIfInBounds_toArray, List.set_cons_zero, List.set_cons_succ, List.getElem?_toArray, List.getElem?_cons_zero, List.getElem?_cons_succ] at c3
  have hR := hC RB _ s W2 hs hB2
  clear hB hB2 hb1 hb2 hD hb
  go_wp2_with fail
  refine hR.mono ?_
  rintro e w3 ⟨rfl, hF3⟩
  go_wp2_with fail
  go_ret
  exact ⟨rfl, hFF.trans (hF3.mono (by simp))⟩
end Go.Proofs.YtaniaknphjnlkaaGreatDoor
