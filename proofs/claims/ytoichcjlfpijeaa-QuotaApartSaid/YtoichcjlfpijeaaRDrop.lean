/- The reference's table: Drop. -/
import Derived.Test.YtoichcjlfpijeaaRSet
namespace Go.Proofs.Ytoichcjlfpijeaa
open Go.RowKit Go.Bl

section
variable {w : World} {r : Nat} {L : List RB} {F : List Nat}

theorem rdrop_none (h : RTab w r L F) (s : ByteArray) (hs : findR L s = -1) : Calls Try.prog 45 #[ptr r, .string s] w fun e w' => e = .returned (.int .i64 5) ∧ w = w' := by
  have HF := Lib.hid (find_any h s)
  rw [hs] at HF
  clear h hs
  go_enter Try.func45, Try.ntmps45
  go_wp2_with (go_at_call 65; refine HF.out.mono ?_; rintro e w' ⟨rfl, rfl⟩)
  go_ret
  exact ⟨rfl, rfl⟩

theorem flat_take (L : List RB) (k : Nat) : (L.flatMap RB.list).take (k * 9) = (L.take k).flatMap RB.list := by
  induction L generalizing k with
  | nil => simp
  | cons x L ih =>
    cases k with
    | zero => simp
    | succ k =>
      rw [List.take_succ_cons, List.flatMap_cons, List.flatMap_cons, ← ih k, List.take_append, RB.list_length, List.take_of_length_le (by simp [RB.list_length]; omega), show (k + 1) * 9 - 9 = k * 9 from by omega]
theorem flat_drop (L : List RB) (k : Nat) : (L.flatMap RB.list).drop (k * 9) = (L.drop k).flatMap RB.list := by
  induction L generalizing k with
  | nil => simp
  | cons x L ih =>
    cases k with
    | zero => simp
    | succ k =>
      rw [List.drop_succ_cons, List.flatMap_cons, ← ih k, List.drop_append, RB.list_length, List.drop_of_length_le (by simp [RB.list_length]; omega), show (k + 1) * 9 - 9 = k * 9 from by omega, List.nil_append]

theorem own_shape {w : World} {v : Value} {n : Nat} {xs : List Value} (h : w.ownsRow 0 124 9 v n xs) : ∃ A c, v = .slice A n c := by
  rcases h.2 with ⟨rfl, rfl⟩ | ⟨g, cap, cur, rfl, _⟩
  · exact ⟨none, 0, rfl⟩
  · exact ⟨_, cap, rfl⟩
theorem drop_new {w : World} {v1 : Value} (h : v1.ownBlock = (Value.slice none 0 0).ownBlock ∨ v1.ownBlock = some w.heap.size) : ∀ i ∈ v1.ownBlock.toList, w.heap.size ≤ i := by
  intro i hi
  rcases h with h | h <;> rw [h] at hi
  · simp [Value.ownBlock] at hi
  · simp at hi; omega
theorem drop_new2 {w w1 : World} {v1 v2 : Value} (h : v1.ownBlock = (Value.slice none 0 0).ownBlock ∨ v1.ownBlock = some w.heap.size) (h2 : v2.ownBlock = v1.ownBlock ∨ v2.ownBlock = some w1.heap.size) (hF : Fr [] w w1) : ∀ g, v2.ownBlock = some g → w.heap.size ≤ g := by
  intro g hg
  have hz := hF.size
  rcases h2 with h2 | h2
  · rw [h2] at hg
    exact drop_new h g (by rw [hg]; simp)
  · rw [h2] at hg
    simp at hg; omega

theorem rdrop_end {w w2 : World} {r : Nat} {L : List RB} {F : List Nat} (h : RTab w r L F) (hF : Fr [] w w2) {v0 : Value} (hq : w2.heap[r]? = some (.cells #[v0] 41 (0, 0))) (M : List RB) {v2 : Value} {n : Nat} {xs : List Value}
    (hown : w2.ownsRow 0 124 9 v2 n xs) (hn : n = M.length) (hx : xs = M.flatMap RB.list) (hnew : ∀ g, v2.ownBlock = some g → w.heap.size ≤ g) (hM : M.length ≤ 16)
    {w3 : World} (hh : w3.heap = (w2.setCell ⟨r, 0, none⟩ v2).heap) (hos : w3.os = w2.os) (ht : w3.tape = w2.tape) (ho : w3.output = w2.output) :
    Fr F w w3 ∧ ∃ F', RTab w3 r M F' ∧ ∀ i ∈ F', i ∈ F ∨ w.heap.size ≤ i := by
  subst hn hx
  have hrlt := h.lt r h.rF
  have hS : Fr [r] w2 (w2.setCell ⟨r, 0, none⟩ v2) := (Fr.refl _ _).setCell1 _ _
  have hS3 : Fr [r] w2 w3 := ⟨hos, ht, ho, by rw [hh]; exact hS.size, fun i hi hm => by rw [hh]; exact hS.block i hi hm⟩
  refine ⟨(hF.mono (by simp)).trans (hS3.mono fun i hi => .inl (by rw [List.mem_singleton.1 hi]; exact h.rF)), r :: v2.ownBlock.toList, ⟨⟨v2, by rw [hh]; exact heap_setCell hq 0 _, ?_, ?_⟩, by simp, ?_, hM⟩, ?_⟩
  · refine hown.kept (row := some r) ⟨hS3.os, hS3.tape, hS3.output, hS3.size, fun i hi hne => hS3.block i hi (by simpa using fun e : i = r => hne (by rw [e]))⟩ ?_
    cases hv : v2.ownBlock with
    | none => exact .inl rfl
    | some g => exact .inr (by have := hnew g hv; simp; omega)
  · intro g hg; simp [hg]
  · intro i hi
    rcases List.mem_cons.1 hi with rfl | hi
    · exact Nat.lt_of_lt_of_le hrlt (Nat.le_trans hF.size hS3.size)
    · have := (hown.lt i (by simpa using hi)).2
      exact Nat.lt_of_lt_of_le this hS3.size
  · intro i hi
    rcases List.mem_cons.1 hi with rfl | hi
    · exact .inl h.rF
    · exact .inr (hnew i (by simpa using hi))

set_option maxRecDepth 100000 in
set_option maxHeartbeats 8000000 in
theorem rdrop_some (h : RTab w r L F) (s : ByteArray) (k : Nat) (hk : k < L.length) (hs : findR L s = k) :
    Calls Try.prog 45 #[ptr r, .string s] w fun e w' => e = .returned (.int .i64 0) ∧ Fr F w w' ∧ ∃ F', RTab w' r (L.take k ++ L.drop (k + 1)) F' ∧ ∀ i ∈ F', i ∈ F ∨ w.heap.size ≤ i := by
  have HF := Lib.hid (find_any h s)
  rw [hs] at HF
  obtain ⟨v, hr, hrow, hvF⟩ := h.ex
  have hv : ∃ g cap, v = .slice (some ⟨g, 0, none⟩) L.length cap ∧ L.length ≤ cap := by
    rcases hrow.2 with ⟨_, h0⟩ | ⟨g, cap, cur, rfl, _, _, h1, _⟩
    · omega
    · exact ⟨g, cap, rfl, h1⟩
  obtain ⟨g, cap, rfl, hcap⟩ := hv
  have c0 : w.cell? ⟨r, 0, none⟩ = some (.slice (some ⟨g, 0, none⟩) L.length cap) := cell_of hr 0
  have hroom := h.room
  obtain ⟨i0, hi0, hz0, hz1, hz2⟩ := info_parts info124
  have n1 : Hid (∀ j u, ((L.take k).flatMap RB.list)[j]? = some u → w.cell? ((⟨g, 0, none⟩ : Addr).add j) = some u) := fun j u hu => by
    rw [add_plain' rfl, Nat.zero_add]
    have hj : j < k * 9 := by
      have := (List.getElem?_eq_some_iff.1 hu).1
      rw [flat_length, List.length_take] at this; omega
    rw [hrow.cellAt j (by omega), ← hu, ← flat_take, List.getElem?_take_of_lt hj]
  have n2 : Hid (∀ {w1 : World}, Fr [] w w1 → ∀ j u, ((L.drop (k + 1)).flatMap RB.list)[j]? = some u → w1.cell? ((⟨g, (k + 1) * 9, none⟩ : Addr).add j) = some u) := fun {w1} hF j u hu => by
    rw [add_plain' rfl]
    have hj : j < (L.length - (k + 1)) * 9 := by
      have := (List.getElem?_eq_some_iff.1 hu).1
      rw [flat_length, List.length_drop] at this; omega
    refine cell_fr hF ?_ (by simp)
    show w.cell? ⟨g, (k + 1) * 9 + j, none⟩ = some u
    rw [hrow.cellAt _ (by omega), ← hu, ← flat_drop, List.getElem?_drop]
  have one : Hid (∀ M : List RB, ∀ u ∈ M.flatMap RB.list, u.oneCell' = true) := fun M u hu => by
    obtain ⟨x, _, hx⟩ := List.mem_flatMap.1 hu
    simp only [RB.list, List.mem_cons, List.not_mem_nil, or_false] at hx
    rcases hx with rfl | rfl | rfl | rfl | rfl | rfl | rfl | rfl | rfl <;> rfl
  have HQ : Hid (∀ {w1 : World}, Fr [] w w1 → w1.heap[r]? = some (.cells #[.slice (some ⟨g, 0, none⟩) L.length cap] 41 (0, 0))) := fun {w1} hF => hF.obj hr (by simp)
  have HH := Lib.hid (And.intro h (And.intro hr (And.intro hrow (And.intro hvF hs))))
  clear h hs hrow hr hvF
  by_cases hc : cap = k + 1
  · subst hc
    go_enter Try.func45, Try.ntmps45
    go_wp2_with (first
      | (go_at_call 65; refine HF.out.mono ?_; rintro e w' ⟨rfl, rfl⟩)
      | (at_builtin; refine wpList_append_own_at w rfl (.tmp 12) (.tmp 18) 39 rfl 0 124 i0 _ 9 80 Try.underlying39 hi0 hz0 hz1 hz2 rfl (by omega) (.slice none 0 0) 0 [] rfl (World.ownsRow_nil _ _ _ _) ⟨g, 0, none⟩ k (k + 1) ((L.take k).flatMap RB.list) rfl (by rw [flat_length, List.length_take]; omega) n1.out (one.out _) (by unfold maxLen; omega) (by omega) (by omega) ?_; intro v1 w1 hown1 hg1 hnil1 hat1; have hG1 : Fr [] w w1 := Fr.of_grownBy hg1; have c1 := cell_fr hG1 c0 (by simp); clear hnil1)
      | (at_builtin; (refine wpList_append_own_at w1 rfl (.tmp 20) (.tmp 27) 39 rfl 0 124 i0 _ 9 80 Try.underlying39 hi0 hz0 hz1 hz2 rfl (by omega) v1 (0 + k) ([] ++ (L.take k).flatMap RB.list) rfl hown1 ⟨g, 0, none⟩ 0 _ [] rfl rfl (fun j u hu => by cases hu) (fun _ h => by cases h) (by unfold maxLen; omega) (by omega) (by omega) ?_); intro v2 w2 hown2 hg2 hnil2 hat2; obtain ⟨A2, cp2, rfl⟩ := own_shape hown2; have hG2 : Fr [] w w2 := hG1.new (Fr.of_grownBy hg2) (drop_new hat1); have hq2 := HQ.out hG2; have c2 := cell_of hq2 0; have f2 := frozen_of hq2; have c3 : w2.cell? ⟨r, 0, none⟩ = some (.slice (some ⟨g, 0, none⟩) L.length (k + 1)) := c2; clear c2 hnil2))
    go_ret
    exact ⟨rfl, rdrop_end HH.out.1 hG2 hq2 (L.take k ++ L.drop (k + 1)) hown2 (by simp; omega) (by rw [List.drop_eq_nil_of_le hcap]; simp) (drop_new2 hat1 hat2 hG1) (by simp; omega) (by simp) rfl rfl rfl⟩
  · go_enter Try.func45, Try.ntmps45
    go_wp2_with (first
      | (go_at_call 65; refine HF.out.mono ?_; rintro e w' ⟨rfl, rfl⟩)
      | (at_builtin; refine wpList_append_own_at w rfl (.tmp 12) (.tmp 18) 39 rfl 0 124 i0 _ 9 80 Try.underlying39 hi0 hz0 hz1 hz2 rfl (by omega) (.slice none 0 0) 0 [] rfl (World.ownsRow_nil _ _ _ _) ⟨g, 0, none⟩ k cap ((L.take k).flatMap RB.list) rfl (by rw [flat_length, List.length_take]; omega) n1.out (one.out _) (by unfold maxLen; omega) (by omega) (by omega) ?_; intro v1 w1 hown1 hg1 hnil1 hat1; have hG1 : Fr [] w w1 := Fr.of_grownBy hg1; have c1 := cell_fr hG1 c0 (by simp); clear hnil1)
      | (at_builtin; (refine wpList_append_own_at w1 rfl (.tmp 20) (.tmp 27) 39 rfl 0 124 i0 _ 9 80 Try.underlying39 hi0 hz0 hz1 hz2 rfl (by omega) v1 (0 + k) ([] ++ (L.take k).flatMap RB.list) rfl hown1 ⟨g, (k + 1) * 9, none⟩ (L.length - (k + 1)) _ ((L.drop (k + 1)).flatMap RB.list) rfl (by rw [flat_length, List.length_drop]) (n2.out hG1) (one.out _) (by unfold maxLen; omega) (by omega) (by omega) ?_); intro v2 w2 hown2 hg2 hnil2 hat2; obtain ⟨A2, cp2, rfl⟩ := own_shape hown2; have hG2 : Fr [] w w2 := hG1.new (Fr.of_grownBy hg2) (drop_new hat1); have hq2 := HQ.out hG2; have c2 := cell_of hq2 0; have f2 := frozen_of hq2; have c3 : w2.cell? ⟨r, 0, none⟩ = some (.slice (some ⟨g, 0, none⟩) L.length cap) := c2; clear c2 hnil2))
    go_ret
    exact ⟨rfl, rdrop_end HH.out.1 hG2 hq2 (L.take k ++ L.drop (k + 1)) hown2 (by simp; omega) (by simp) (drop_new2 hat1 hat2 hG1) (by simp; omega) (by simp) rfl rfl rfl⟩
end
end Go.Proofs.Ytoichcjlfpijeaa
