/- The reference's cache, empty: Put, Get. -/
import Derived.Test.YtoichcjlfpijeaaCRef2
import Derived.Deep.RegionHeld3
namespace Go.Proofs.Ytoichcjlfpijeaa
open Go.RowKit Go.Bl

theorem rlen_1 {w : World} {r : Nat} {t : ByteArray} (h : R1 w r t) : Calls Try.prog 67 #[pp r, .string t] w fun e w' => e = .returned (.int .i64 1) ∧ w = w' := by
  obtain ⟨b, hr, hb⟩ := h
  have c1 : w.cell? ⟨r, 1, none⟩ = some (.slice (some ⟨b, 0, none⟩) 1 1) := cell_of hr 1
  clear hr
  go_enter Try.func67, Try.ntmps67
  go_wp2
  go_loop [5, 6] (fun n i => (n = .int .i64 0 ∧ i = .int .i64 0) ∨ (n = .int .i64 1 ∧ i = .int .i64 1)) (fun _ i => 1 - (intOf i).toNat)
  case atStart => exact .inl ⟨rfl, rfl⟩
  case round =>
    rcases hrel with ⟨rfl, rfl⟩ | ⟨rfl, rfl⟩
    · go_wp2
      go_round
      case rel => exact .inr ⟨rfl, rfl⟩
      case measure => simp [intOf]
    · go_wp2
      go_ret
      exact ⟨rfl, rfl⟩

theorem rput_0 {w : World} {r : Nat} (h : R0 w r) (t k s x : ByteArray) :
    Calls Try.prog 48 #[pp r, .string t, .string k, .string s, .string x] w fun e w' => e = .returned (.int .i64 (putR k x)) ∧ Fr [r] w w' := by
  have HL := Lib.hid (rlen_0 h t)
  have HT := Lib.hid (rten_0 h)
  have HF := Lib.hid (rfind_0 h t k)
  have HR := Lib.hid (rfirst_0 h t k s x)
  clear h
  unfold putR
  by_cases hs : putOk k x
  · rw [if_pos hs]
    unfold putOk at hs
    have q1 : ¬ (65536 : Int) < x.size := by omega
    have q2 : ¬ (524288 : Int) < k.size := by omega
    clear hs
    go_enter Try.func48, Try.ntmps48
    go_wp2_with (first
      | (go_at_call 67; refine HL.out.mono ?_; rintro e w' ⟨rfl, rfl⟩)
      | (go_at_call 68; refine HT.out.mono ?_; rintro e w' ⟨rfl, rfl⟩)
      | (go_at_call 69; refine HF.out.mono ?_; rintro e w' ⟨rfl, rfl⟩)
      | (go_at_call 71; refine HR.out.mono ?_; rintro e w1 ⟨rfl, h1, hF1⟩; have H1 := Lib.hid h1; clear h1))
    have c0 : w1.cell? ⟨r, 0, none⟩ = some (.int .i64 1) := by obtain ⟨b, hb, _⟩ := H1.out; exact cell_of hb 0
    have HW : Hid (∀ j, R1 (w1.drewN j) r t) := fun j => H1.out
    go_quiet ((go_at_call 67; exact quiet_sym (rlen_1 (HW.out _))))
    go_wp2
    go_ret
    exact ⟨rfl, hF1.drewN nq⟩
  · rw [if_neg hs]
    by_cases q1 : 65536 < x.size
    · have q1 : (65536 : Int) < x.size := by omega
      clear hs
      go_enter Try.func48, Try.ntmps48
      go_wp2_with (first
        | (go_at_call 67; refine HL.out.mono ?_; rintro e w' ⟨rfl, rfl⟩)
        | (go_at_call 68; refine HT.out.mono ?_; rintro e w' ⟨rfl, rfl⟩))
      go_ret
      exact ⟨rfl, Fr.refl _ _⟩
    · have q2 : (524288 : Int) < k.size := by unfold putOk at hs; omega
      have q1 : ¬ (65536 : Int) < x.size := by omega
      clear hs
      go_enter Try.func48, Try.ntmps48
      go_wp2_with (first
        | (go_at_call 67; refine HL.out.mono ?_; rintro e w' ⟨rfl, rfl⟩)
        | (go_at_call 68; refine HT.out.mono ?_; rintro e w' ⟨rfl, rfl⟩))
      go_ret
      exact ⟨rfl, Fr.refl _ _⟩

/-- Behind a count of a new tenant's: its place, its cells. -/
structure R2 (w : World) (r g cap : Nat) : Prop where
  r : w.heap[r]? = some (.cells #[.int .i64 1, .slice none 0 0, .slice (some ⟨g, 0, none⟩) 1 cap] 58 (0, 0))
  h : w.cell? ⟨g, 1, none⟩ = some (.int .i64 0)
  m : w.cell? ⟨g, 2, none⟩ = some (.int .i64 0)
  f : ∀ o, w.frozen? ⟨g, o, none⟩ = false
theorem heap_alloc_at {w : World} {o : Obj} {i : Nat} (h : w.heap.size = i) : (w.alloc o).heap[i]? = some o := by subst h; exact heap_alloc w o
def CountPost (w : World) (r : Nat) (e : Ending) (w' : World) : Prop := e = .returned (.int .i64 0) ∧ (∃ g cap, R2 w' r g cap ∧ w.heap.size ≤ g) ∧ Fr [r] w w'

set_option maxRecDepth 100000 in
theorem rcount_0 {w : World} {r : Nat} (h : R0 w r) (t : ByteArray) : Calls Try.prog 72 #[pp r, .string t] w (CountPost w r) := by
  obtain ⟨c0, c1, c2, fz⟩ := r0_cells h
  have hlt := lt_of_obj h
  have H := Lib.hid h
  clear h
  go_enter Try.func72, Try.ntmps72
  go_wp2
  go_loop [5] (fun i => i = .int .i64 0) (fun _ => 0)
  case atStart => exact rfl
  case round =>
    subst hrel
    go_wp2
    go_ret
    generalize (Question.appendCap 1 0 133).cut (w.tape w.drawn (Question.appendCap 1 0 133)) = cap
    have hz : ∀ v, (w.setCell ⟨r, 2, none⟩ v).heap.size = w.heap.size := fun v => by simp [World.setCell]
    refine ⟨rfl, ⟨w.heap.size + 1, cap, ⟨?_, ?_, ?_, ?_⟩, by omega⟩, ?_⟩
    · exact Go.Bl.heap_alloc_old (Go.Bl.heap_alloc_old (heap_setCell H.out 2 _) _) _
    · refine (cell_of (heap_alloc_at (by rw [size_alloc', hz])) 1).trans ?_
      simp [Array.getElem?_append]
    · refine (cell_of (heap_alloc_at (by rw [size_alloc', hz])) 2).trans ?_
      simp [Array.getElem?_append]
    · exact frozen_of (heap_alloc_at (by rw [size_alloc', hz]))
    · exact ((((Fr.refl [r] w).setCell1 2 _).alloc _).alloc _).drew

def RgetPost (w : World) (r : Nat) (e : Ending) (w' : World) : Prop := e = .returned (.tuple #[.string ⟨#[]⟩, .bool false]) ∧ Fr [r] w w'
set_option maxRecDepth 100000 in
theorem rget_0 {w : World} {r : Nat} (h : R0 w r) (t k s : ByteArray) : Calls Try.prog 49 #[pp r, .string t, .string k, .string s] w (RgetPost w r) := by
  have HF := Lib.hid (rfind_0 h t k)
  have HC := Lib.hid (rcount_0 h t)
  clear h
  go_enter Try.func49, Try.ntmps49
  go_wp2_with (go_at_call 69; refine HF.out.mono ?_; rintro e w' ⟨rfl, rfl⟩)
  refine HC.out.mono ?_
  rintro e w1 ⟨rfl, ⟨g, cap, hR, hg⟩, hFr⟩
  have c2 : w1.cell? ⟨r, 2, none⟩ = some (.slice (some ⟨g, 0, none⟩) 1 cap) := cell_of hR.r 2
  have e2 := hR.m
  have ef := hR.f
  have HFr : Hid (∀ v, Fr [r] w (w1.setCell ⟨g, 2, none⟩ v)) := fun v => fr_then hFr ((Fr.refl [g] w1).setCell1 2 v) (fun i hi => .inr (by rw [List.mem_singleton.1 hi]; exact hg))
  clear hR hFr hg
  go_wp2_with fail
  go_region
  go_wp2
  go_ret2
  exact ⟨rfl, (HFr.out _).drew⟩
end Go.Proofs.Ytoichcjlfpijeaa
