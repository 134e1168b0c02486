/- The step that asks that a text is not there. -/
import Derived.Test.YtaniaknphjnlkaaGreatDoorLqQuo
import Derived.Test.YtaniaknphjnlkaaGreatDoorLqRQC
import Derived.Deep.RegionHeld3
namespace Go.Proofs.YtaniaknphjnlkaaGreatDoor
open Go.RowKit Go.Bl Go.Lq

set_option maxRecDepth 100000 in
set_option maxHeartbeats 4000000 in
theorem lacks_any {B b : Nat} {s : ByteArray} {l : Bs} {q : Qy} {c2 c4 : Value} {w : World} (h : RQ B b s l q c2 c4 w) :
    Calls Tryz.prog 22 #[.pointer (some ⟨b, 0, none⟩)] w (StepPost B b s c2 c4 (stepQ q 4 (quotedL l)) w) := by
  obtain ⟨ts, hts⟩ : ∃ ts, q.tests = ts := ⟨_, rfl⟩
  obtain ⟨c3, hc3⟩ : ∃ c3 : Value, .int .i64 q.level = c3 := ⟨_, rfl⟩
  obtain ⟨c5, hc5⟩ : ∃ c5 : Value, .int .i64 q.limit = c5 := ⟨_, rfl⟩
  have hR := h.rd
  have hrow := h.trow
  have hne := h.ne4
  have hlen : ts.length ≤ 1024 := by have := h.few; have := hR.short; rw [hts] at *; omega
  have hBb : B ≤ w.heap.size := by have := lt_of_obj hR.cells; have := h.base; omega
  rw [hc3, hc5] at hR
  rw [hts] at hrow
  have k4 := cell_of hR.cells 4
  simp only [List.getElem?_toArray, List.getElem?_cons_zero, List.getElem?_cons_succ] at k4
  have HH := Lib.hid h
  clear h
  go_enter Tryz.func22, Tryz.ntmps22
  obtain ⟨pr, hpr⟩ : ∃ pr, quotedL l = pr := ⟨_, rfl⟩
  have hQ := quoted_any b s l c2 c3 c4 c5
  rw [hpr] at hQ ⊢
  obtain ⟨i0, hi0, hz0, hz1, hz2⟩ := info_parts infoMt
  cases pr with
  | ok v r =>
    have hlr := quotedL_len hpr
    have hnb : b ∉ c4.ownBlock.toList := by rw [Option.mem_toList]; exact hne
    go_wp2_with fail
    go_region_law (first | (refine step_append_lies _ rfl (.tmp 7) (.tmp 11) 22 rfl B 56 i0 _ 3 _ Tryz.underlying22 hi0 hz0 hz1 hz2 rfl (by omega) c4 ts.length (mtCells ts) (by simp [Act.eval]) (HO.out.alloc _) ⟨w1.heap.size, 0, none⟩ 1 1 [.int .i64 4, .string ⟨#[]⟩, .string ⟨v.toArray⟩] (by simp [Act.eval]) rfl (news3 w1 _ _ _ _) (by simp [Value.oneCell']) (by omega) (by unfold maxLen; omega) (by omega) (by simp; omega) (w1.heap.size + 1) (by simp) ?_; intro gg cap' w2 hown2 hgrow hat hlt; have hq2 := (fr_grown hgrow).obj (Go.Bl.heap_alloc_old HR.out.cells _) hnb; have hfz := frozen_of hq2 4; have hcl := cell_of hq2 4; simp only [List.getElem?_toArray, List.getElem?_cons_zero, List.getElem?_cons_succ] at hcl) | (go_simp; go_at_call 43; refine (hQ w.drew ⟨hR.cells, hR.suf, hR.short⟩).mono ?_; rintro e w1 ⟨hF1, rfl, hR1⟩; have j4 := cell_of hR1.cells 4; simp only [List.getElem?_toArray, List.getElem?_cons_zero, List.getElem?_cons_succ] at j4; have j5 : ∀ o, (w1.alloc o).cell? ⟨b, 4, none⟩ = some c4 := (fun o => (cell_of (Go.Bl.heap_alloc_old hR1.cells o) 4).trans rfl); have HO := Lib.hid (row_fr hrow hF1.of_drew (fun k hk => by simp only [List.mem_singleton]; rintro rfl; exact hne hk)); have hs1 := hF1.of_drew.size; have HR := Lib.hid hR1; clear hR1))
    all_goals
      go_wp2_with fail
      have hx := RQ.test (t := ⟨4, [], v⟩) (r := r) HH.out (w' := w2) (c4' := .slice (some ⟨gg, 0, none⟩) (ts.length + 1) cap') ?_ hq2 ?_ ?_ (g := gg) rfl ?_ hlr
      · exact ⟨rfl, .tuple #[], by simp [results, Tryz.results22, go_sem], hx.2.1, rfl, _, hx.1, hx.2.2⟩
      · exact (((hF1.of_drew.mono (T := b :: c4.ownBlock.toList) (by simp)).alloc _).trans ((fr_grown hgrow).mono (by simp_all)))
      · rw [hc3, hc5]
        exact ⟨heap_setCell hq2 4 _, HR.out.suf, HR.out.short⟩
      · rw [hts, mtCells_append]
        exact hown2
      · rcases hat with hat | hat
        · exact .inl hat
        · exact .inr (by omega)
  | bad r =>
    go_wp2_with fail
    refine wp_region_held_drew (S := fun w' => w'.cell? ⟨b, 4, none⟩ = some c4 ∧ Fr [b] w w') (by kernel_rfl) ⟨k4, (Fr.refl _ _).drew⟩ (fun hHeld => ?_)
    refine wpAnyH_take (i := 0) (oi := _) (v := ?_) rfl (by kernel_rfl) (by kernel_rfl) (by kernel_rfl) (fun _ _ _ h => h) (Or.inl ⟨by rfl, ?_⟩) (by assumption) ?_
    rotate_left
    · intro w hSw
      (try dsimp only at hSw)
      go_simp
      all_goals (with_reducible rfl)
    (try simp only [Act.put, List.setIfInBounds_toArray, List.set_cons_zero, List.set_cons_succ])
    refine wpAnyH_take (i := 1) (oi := _) (v := ?_) rfl (by kernel_rfl) (by kernel_rfl) (by kernel_rfl) (fun _ _ _ h => h) (Or.inl ⟨by rfl, ?_⟩) (by assumption) ?_
    rotate_left
    · intro w hSw
      (try dsimp only at hSw)
      go_simp
      all_goals (with_reducible rfl)
    (try simp only [Act.put, List.setIfInBounds_toArray, List.set_cons_zero, List.set_cons_succ])
    refine wpAnyH_take (i := 2) (oi := _) (v := ?_) rfl (by kernel_rfl) (by kernel_rfl) (by kernel_rfl) (fun _ _ _ h => h) (Or.inl ⟨by rfl, ?_⟩) (by assumption) ?_
    rotate_left
    · intro w hSw
      (try dsimp only at hSw)
      go_simp
      all_goals (with_reducible rfl)
    (try simp only [Act.put, List.setIfInBounds_toArray, List.set_cons_zero, List.set_cons_succ])
    refine wpAnyH_take (i := 3) (oi := _) (v := ?_) rfl (by kernel_rfl) (by kernel_rfl) (by kernel_rfl) (fun _ _ _ h => h) (Or.inl ⟨by rfl, ?_⟩) (by assumption) ?_
    rotate_left
    · intro w hSw
      (try dsimp only at hSw)
      go_simp
      all_goals (with_reducible rfl)
    (try simp only [Act.put, List.setIfInBounds_toArray, List.set_cons_zero, List.set_cons_succ])
    refine wpAnyH_take (i := 4) (oi := _) (v := ?_) rfl (by kernel_rfl) (by kernel_rfl) (by kernel_rfl) (fun _ _ _ h => h) (Or.inl ⟨by rfl, ?_⟩) (by assumption) ?_
    rotate_left
    · intro w hSw
      (try dsimp only at hSw)
      go_simp
      all_goals (with_reducible rfl)
    (try simp only [Act.put, List.setIfInBounds_toArray, List.set_cons_zero, List.set_cons_succ])
    refine wpAnyH_take (i := 5) (oi := _) (v := ?_) rfl (by kernel_rfl) (by kernel_rfl) (by kernel_rfl) (fun _ _ _ h => h) (Or.inl ⟨by rfl, ?_⟩) (by assumption) ?_
    rotate_left
    · intro w hSw
      (try dsimp only at hSw)
      go_simp
      all_goals (with_reducible rfl)
    (try simp only [Act.put, List.setIfInBounds_toArray, List.set_cons_zero, List.set_cons_succ])
    refine wpAnyH_take (i := 6) (oi := _) (v := ?_) rfl (by kernel_rfl) (by kernel_rfl) (by kernel_rfl) (fun _ _ _ h => h) (Or.inl ⟨by rfl, ?_⟩) (by assumption) ?_
    rotate_left
    · intro w hSw
      (try dsimp only at hSw)
      go_simp
      all_goals (with_reducible rfl)
    (try simp only [Act.put, List.setIfInBounds_toArray, List.set_cons_zero, List.set_cons_succ])
    refine wpAnyH_ready (rs := [7]) (by kernel_rfl) (by simp) ?_
    refine AllReadyH.cons (o := _) rfl (fun K hK => ?_) ?_
    · go_simp
      refine (hQ w.drew ⟨hR.cells, hR.suf, hR.short⟩).mono ?_
      rintro e w1 ⟨hF1, rfl⟩
      exact ⟨rfl, fr_own hF1.of_drew _, rfl⟩
    · exact AllReadyH.nil
end Go.Proofs.YtaniaknphjnlkaaGreatDoor
