/- Copy: the walk. -/
import Derived.Test.YtoichcjlfpijeaaCopyW
namespace Go.Proofs.Ytoichcjlfpijeaa
open Go.RowKit Go.Bl Go.Shelf
attribute [local go_sem] Oper.semAt_some

theorem cell_new_q (W : World) (v : Value) (t : TypeId) : (W.alloc (.cells #[v] t)).heap[W.heap.size]? = some (.cells #[v] t (0, 0)) := Go.Bl.heap_alloc W _

set_option maxRecDepth 100000 in
set_option maxHeartbeats 4000000 in
theorem copy_some {w : World} {t m : Nat} {f : ByteArray → Option Value} {T : ByteArray → Option Bk} {n : Nat} {F : List Nat} (h : TabO w t m f T n F) : Calls Try.prog 33 #[ptr t] w (CopyPost T w) := by
  refine (callsIn_wide (n := 3)).1 ?_
  have hmw := h.map.lt
  have ct : w.cell? ⟨t, 0, none⟩ = some (.map (some m)) := cell_of h.tab 0
  refine callsIn_of_wp_marks Try.func33 rfl trivial ?_ rfl
  simp only [Try.ntmps33, List.size_toArray, List.length_cons, List.length_nil, Nat.reduceAdd, Nat.reduceSub, Array.replicate_succ, Array.replicate_zero, List.push_toArray, List.append_toArray, List.nil_append, List.cons_append]
  have H := Lib.hid h
  clear h
  clear ct
  gi_wp2_with (refine ⟨trivial, ?_⟩; gi_at_call 10; refine (callsIn_wide.2 (new_any _)).mono ?_; rintro e w1 ⟨c, mc, Fc, rfl, hT0, hn0, hF0⟩; have hs1 := hF0.size; have H1 := Lib.hid (H.out.fr hF0 (by simp)); have HN := Lib.hid hT0; have ct1 : w1.cell? ⟨t, 0, none⟩ = some (.map (some m)) := cell_of H1.out.tab 0; have htl : t < w1.heap.size := (lt_of_obj H1.out.tab); clear hT0)
  gi_wp2_with (refine ⟨trivial, ?_⟩; gi_at_call 61; refine (all_in Fence.wide _ trivial rfl _ _).mono ?_; rintro e w2 ⟨rfl, rfl⟩)
  have hl := H1.out
  obtain ⟨W0, hW0⟩ : ∃ W0, (w1.alloc (.cells #[.pointer (some ⟨c, 0, none⟩)] 23)).alloc (.cells #[.map (some m)] 81) = W0 := ⟨_, rfl⟩
  have hsz : W0.heap.size = w1.heap.size + 2 := by rw [← hW0]; simp
  have hF1 : Fr [] w1 W0 := by rw [← hW0]; exact ((Fr.refl _ _).alloc _).alloc _
  have hbox : W0.heap[w1.heap.size]? = some (.cells #[ptr c] 23 (0, 0)) := by rw [← hW0]; exact Go.Bl.heap_alloc_old (heap_alloc w1 _) _
  have hbm : W0.cell? ⟨w1.heap.size + 1, 0, none⟩ = some (.map (some m)) := by
    have := heap_alloc (w1.alloc (.cells #[.pointer (some ⟨c, 0, none⟩)] 23)) (.cells #[.map (some m)] 81)
    rw [size_alloc', hW0] at this
    exact cell_of this 0
  have HT0 := Lib.hid (H1.out.fr hF1 (by simp))
  have HN0 := Lib.hid (HN.out.fr hF1 (by simp))
  have hc1 : c < w1.heap.size := HN.out.lt c HN.out.tF
  have hmc1 : mc < w1.heap.size := HN.out.lt mc HN.out.mF
  have hm1 : m < w1.heap.size := by omega
  have hmm : m ≠ mc := by have := hn0 mc HN.out.mF; omega
  rw [hW0]
  have hvk := copy_nil_box HT0.out
  have h0I : CopyI f T w W0.heap.size w1.heap.size c mc [] W0 :=
    ⟨hbox, ⟨_, _, 0, Fc, HN0.out, Nat.le_refl _, ⟨fun s hs => by simp at hs, fun _ _ => rfl⟩, hn0, fun i hi => by have := HN.out.lt i hi; exact ⟨by omega, .inl (by omega)⟩⟩, hF0.trans hF1⟩
  clear hl ct1
  refine wpIn_rangeFunc_ownG rfl (by omega) (gf := 75) (lb := #[.pointer (some ⟨w1.heap.size + 1, 0, none⟩)]) rfl trivial (enters_of Try.func75 (by kernel_rfl) rfl)
    (all_stops Fence.wide (3 - 1) trivial rfl (by omega) (w1.heap.size + 1) m n f hvk W0 (by omega) hbm HT0.out.map) (fun h k => h.trans k) (KpB.putObj (by omega)) (Below.refl _ _) (fun _ => rfl)
    (CopyI f T w W0.heap.size w1.heap.size c mc) (fun _ _ _ => False) (CopyI.own (by omega) (by omega)) (fun _ _ _ _ _ hs _ _ => hs) h0I
    (fun x => { tmps := #[ptr t, undef, .pointer none, .pointer (some ⟨w1.heap.size, 0, none⟩), .string x.1.1, .pointer (some ⟨x.1.2, 0, none⟩), undef, ptr t, .bool false, ptr c, ptr t, ptr t, ptr t, ptr t, .map (some m), .func (.func 75) #[] #[.pointer (some ⟨w1.heap.size + 1, 0, none⟩)], .string x.1.1, .pointer (some ⟨x.1.2, 0, none⟩), undef, undef, undef, undef, undef, undef, undef, undef, undef, undef], defers := [] }) ?assign ?body ?done ?stop
  case assign =>
    intro l x W K hK
    gi_wp2
    exact hK
  case body =>
    rintro l pre ⟨⟨nm, kk⟩, hx⟩ W ⟨hb, ⟨fc, Tc, n', Fc', hT, hn', ⟨hTc, hTn⟩, hnew, hF⟩, hold⟩ hlt
    dsimp only at hx
    obtain ⟨k, b, hkv, hTb, hbk, ok, hkF⟩ := H.out.yes _ _ hx
    simp only [Value.pointer.injEq, Option.some.injEq, Addr.mk.injEq, and_true] at hkv
    subst hkv
    have hbW : BkAt W kk b := hold.obj hbk (by simp)
    have hWs : w.heap.size ≤ W.heap.size := hold.size
    have h1 := hT.fr ((Fr.refl [] W).alloc (.cells b.cells 89)) (by simp)
    obtain ⟨w2, hst, hM, hFm, hz⟩ := h1.map.store Try.underlying81 Try.underlying9 nm (ptr W.heap.size)
    have hn16 := H.out.room
    have hT2 := hT.put nm b ok hM hFm (fun _ => by omega)
    have hmcW : mc < W.heap.size := hT.map.lt
    have hW0W : w1.heap.size < W.heap.size := lt_of_obj hb
    have hfm2 : Fr [mc] W w2 := ((Fr.refl _ _).alloc _).trans hFm
    have hcW : W.cell? ⟨c, 0, none⟩ = some (.map (some mc)) := cell_of hT.tab 0
    have hcl : c < W.heap.size := lt_of_obj hT.tab
    have hbox3 : W.cell? ⟨w1.heap.size, 0, none⟩ = some (ptr c) := cell_of hb 0
    have hbk2 : w2.heap[W.heap.size]? = some (.cells b.cells 89 (0, 0)) := hFm.obj (heap_alloc W _) (by simp; omega)
    have hR : KeepsFrom W0.heap.size W w2 ∧ KpB m W0.heap.size W w2 ∧ CopyI f T w W0.heap.size w1.heap.size c mc (pre ++ [⟨(nm, kk), hx⟩]) w2 := by
      refine ⟨⟨hfm2.size, fun j o hj ho _ => hfm2.obj ho (by simp; omega)⟩, ⟨hfm2.size, hfm2.block m (by omega) (by simp; exact hmm), fun j o hj ho _ => hfm2.obj ho (by simp; omega)⟩, ⟨hfm2.obj hb (by simp; omega), ⟨_, _, _, _, hT2, ?_, ⟨?_, ?_⟩, ?_, ?_⟩, hold.new hfm2 (by simpa using hnew mc hT.mF)⟩⟩
      · simp only [List.length_append, List.length_singleton]; unfold bump; split <;> omega
      · intro s hs
        by_cases e : s = nm
        · rw [if_pos e, e, hTb]
        · rw [if_neg e]
          refine hTc s ?_
          simpa [e] using hs
      · intro s hs
        simp only [List.map_append, List.map_cons, List.map_nil, List.mem_append, List.mem_singleton, not_or] at hs
        rw [if_neg hs.2]
        exact hTn s hs.1
      · intro i hi
        rcases List.mem_cons.1 hi with rfl | hi
        · exact hWs
        · exact hnew i hi
      · intro i hi
        rcases List.mem_cons.1 hi with rfl | hi
        · exact ⟨by omega, .inr ⟨_, hbk2⟩⟩
        · refine ⟨(hF i hi).1, ?_⟩
          rcases (hF i hi).2 with h | ⟨cs, h⟩
          · exact .inl h
          · by_cases e : i = mc
            · exact .inl (by omega)
            · exact .inr ⟨cs, hfm2.obj h (by simpa using e)⟩
    have HR := Lib.hid hR
    have HS := Lib.hid hst
    obtain ⟨c0, c1, c2, c3, c4, c5, c6, c7, _⟩ := bk_cells hbW
    clear hR hst hT hT2 hF hnew hTc hTn hold hbk hbW h1 hM hFm hz hfm2 hbk2 hb hTb ok
    obtain ⟨rate, burst, has, part, at_, tk, rf, cs⟩ := b
    simp only [Bk.cells] at HS
    dsimp only at c0 c1 c2 c3 c4 c5 c6 c7
    gi_wp2_with (gi_at_mapUpdate; refine wpListIn_mapUpdate_run _ rfl _ _ _ _ rfl _ _ _ rfl rfl rfl HS.out ?_)
    exact HR.out
  case done =>
    rintro D xs W hD hAll ⟨hb, ⟨fc, Tc, n', Fc', hT, hn', ⟨hTc, hTn⟩, hnew, hF⟩, hold⟩ hK
    have cb : W.cell? ⟨w1.heap.size, 0, none⟩ = some (ptr c) := cell_of hb 0
    have HR := Lib.hid hT
    clear hT hb
    gi_wp2
    refine ⟨by simp, .inl ⟨_, _, rfl, run_takeDeferred hK, ?_⟩⟩
    have hg := fr_of_grown (S := [D]) (grownBy_putObj' W D (.deferred none)) (by rintro r e; cases e; simp)
    refine ⟨_, results_tmp rfl _ _ _, c, n', Fc', rfl, ⟨mc, fc, ?_⟩, hold.new hg (by simp; omega), hnew⟩
    have hTT : Tc = T := by
      funext s
      by_cases hs : s ∈ xs.map (fun x => x.1.1)
      · exact hTc s hs
      · rw [HR.out.no s (hTn s hs)]
        cases hfs : f s with
        | none => exact (H.out.no s hfs).symm
        | some v =>
          refine absurd ?_ hs
          have := hAll.2.2 s v hfs
          simpa using this
    rw [← hTT]
    refine HR.out.fr hg fun i hi => ?_
    simp only [List.mem_singleton]
    rintro rfl
    rcases (hF _ hi).2 with h | ⟨cs, h⟩
    · omega
    · rw [h] at hK; cases hK
  case stop =>
    rintro D c pre W _ _ h _
    exact h.elim
theorem copy_any {w : World} {t : Nat} {T : ByteArray → Option Bk} {n : Nat} {F : List Nat} (h : Tab w t T n F) : Calls Try.prog 33 #[ptr t] w (CopyPost T w) := by
  obtain ⟨m, f, h⟩ := h
  exact copy_some h
end Go.Proofs.Ytoichcjlfpijeaa
