/- The reference's table: Set. -/
import Derived.Test.YtoichcjlfpijeaaROps
import Derived.Test.YtoichcjlfpijeaaQSet
import Derived.Test.YtoichcjlfpijeaaQOpen
import Derived.Deep.AppendLies
import Derived.Deep.RegionLaw
namespace Go.Proofs.Ytoichcjlfpijeaa
open Go.RowKit Go.Bl

theorem Fr.of_grownBy {w w' : World} {row : Option Nat} (h : w.grownBy w' row) : Fr row.toList w w' :=
  ⟨h.os, h.tape, h.output, h.size, fun i hi hS => h.block i hi (by rintro e; exact hS (by rw [← e]; simp))⟩

section
variable {w : World} {r : Nat} {L : List RB} {F : List Nat}

theorem rset_bad (t : Nat) (s : ByteArray) (r b n : Int) (w : World) (h : ¬ goodSet r b n) : Calls Try.prog 40 #[ptr t, .string s, .int .i64 r, .int .i64 b, .int .i64 n] w fun e w' => e = .returned (.int .i64 1) ∧ w = w' := by
  by_cases h1 : r < 0
  · clear h
    go_enter Try.func40, Try.ntmps40
    go_wp2_with fail
    go_ret
    exact ⟨rfl, rfl⟩
  by_cases h2 : 1000000000 < r
  · clear h
    go_enter Try.func40, Try.ntmps40
    go_wp2_with fail
    go_ret
    exact ⟨rfl, rfl⟩
  by_cases h3 : b < 1
  · clear h
    go_enter Try.func40, Try.ntmps40
    go_wp2_with fail
    go_ret
    exact ⟨rfl, rfl⟩
  by_cases h4 : 1000000000 < b
  · clear h
    go_enter Try.func40, Try.ntmps40
    go_wp2_with fail
    go_ret
    exact ⟨rfl, rfl⟩
  have h5 : n < 0 ∨ 1125899906842624 < n := by unfold goodSet at h; omega
  clear h
  go_enter Try.func40, Try.ntmps40
  go_wp2_with (go_at_call 64; refine (risTime_no _ _ h5).mono ?_; rintro e w' ⟨rfl, rfl⟩)
  go_ret
  exact ⟨rfl, rfl⟩

set_option maxRecDepth 100000 in
theorem rset_full (h : RTab w r L F) (s : ByteArray) (rate burst now : Int) (hg : goodSet rate burst now) (hs : findR L s = -1) (hn : 16 ≤ L.length) :
    Calls Try.prog 40 #[ptr r, .string s, .int .i64 rate, .int .i64 burst, .int .i64 now] w fun e w' => e = .returned (.int .i64 7) ∧ Fr [] w w' := by
  have HF := Lib.hid (find_any h s)
  rw [hs] at HF
  obtain ⟨g1, g2, g3, g4, g5, g6⟩ := hg
  obtain ⟨v, hr, hrow, hvF⟩ := h.ex
  have hsl : ∃ A cap, v = .slice A L.length cap := by
    rcases hrow.2 with ⟨rfl, h0⟩ | ⟨g, cap, cur, rfl, _⟩
    · exact ⟨none, 0, by rw [h0]⟩
    · exact ⟨_, cap, rfl⟩
  obtain ⟨A, cap, rfl⟩ := hsl
  have c0 : w.cell? ⟨r, 0, none⟩ = some (.slice A L.length cap) := cell_of hr 0
  have lr := lt_of_obj hr
  have hn' : (16 : Int) ≤ (L.length : Int) := by omega
  clear h hs hrow hr hvF
  go_enter Try.func40, Try.ntmps40
  go_wp2_with (first
    | (go_at_call 64; refine (risTime_yes _ _ g5 g6).mono ?_; rintro e w' ⟨rfl, rfl⟩)
    | (go_at_call 65; refine HF.out.mono ?_; rintro e w' ⟨rfl, rfl⟩))
  go_ret
  exact ⟨rfl, (Fr.refl _ _).alloc _⟩

set_option maxRecDepth 100000 in
set_option maxHeartbeats 8000000 in
theorem rset_there (h : RTab w r L F) (s : ByteArray) (rate burst now : Int) (hg : goodSet rate burst now) (k : Nat) (hk : k < L.length) (hs : findR L s = k) :
    Calls Try.prog 40 #[ptr r, .string s, .int .i64 rate, .int .i64 burst, .int .i64 now] w fun e w' => e = .returned (.int .i64 0) ∧ RTab w' r (L.set k ⟨s, Bk.new rate burst now⟩) F ∧ Fr F w w' := by
  have HF := Lib.hid (find_any h s)
  rw [hs] at HF
  obtain ⟨g1, g2, g3, g4, g5, g6⟩ := hg
  obtain ⟨g, cap, hO⟩ := h.open k hk
  obtain ⟨d0, d1, d2, d3, d4, d5, d6, d7, d8⟩ := hO.c
  have c0 : w.cell? ⟨r, 0, none⟩ = some (.slice (some ⟨g, 0, none⟩) L.length cap) := cell_of hO.hr 0
  have fz := hO.fz
  have lr := lt_of_obj hO.hr
  have lg := World.block_lt_of_cell? w _ d0
  have hroom := h.room
  dsimp only at lg
  have HH := Lib.hid (And.intro h (And.intro hO hk))
  clear h hs hO
  go_enter Try.func40, Try.ntmps40
  go_wp2_with (first
    | (go_at_call 64; refine (risTime_yes _ _ g5 g6).mono ?_; rintro e w' ⟨rfl, rfl⟩)
    | (go_at_call 65; refine HF.out.mono ?_; rintro e w' ⟨rfl, rfl⟩))
  go_region
  go_wp2
  go_ret
  obtain ⟨hT, hO, hk⟩ := HH.out
  have hT2 := hT.set9 hO.hr k hk ⟨s, Bk.new rate burst now⟩
  have hF2 := Fr.set9 (Fr.refl F w) hO.gF k ⟨s, Bk.new rate burst now⟩
  have hF3 : ∀ {w3 : World}, Fr [] (set9 w g k ⟨s, Bk.new rate burst now⟩) w3 → RTab w3 r (L.set k ⟨s, Bk.new rate burst now⟩) F ∧ Fr F w w3 := fun h3 => ⟨hT2.fr h3 (fun _ _ => by simp), hF2.trans (h3.mono (by simp))⟩
  refine ⟨rfl, hF3 ?_⟩
  repeat (first | with_reducible refine Fr.drew ?_ | with_reducible refine Fr.drewN ?_ _ | with_reducible refine Fr.alloc ?_ _)
  exact Fr.refl _ _

theorem info124 : (Try.prog.info? 124).map (fun i => (i.zero, i.size, i.bytes)) = some (some (.agg #[.string ⟨#[]⟩, .int .i64 0, .int .i64 0, .int .i64 0, .int .i64 0, .int .i64 0, .int .i64 0, .int .i64 0, .int .i64 0]), 9, 80) := by kernel_rfl

theorem rset_end {w w1 : World} {r : Nat} {L : List RB} {F : List Nat} (h : RTab w r L F) (hF : Fr F w w1) {A : Option Addr} {cap gg cap' : Nat} {x : RB} (hq : w1.heap[r]? = some (.cells #[.slice A L.length cap] 41 (0, 0)))
    (hown : w1.ownsRow 0 124 9 (.slice (some ⟨gg, 0, none⟩) (L.length + 1) cap') (L.length + 1) (L.flatMap RB.list ++ x.list)) (hat : (Value.slice A L.length cap).ownBlock = some gg ∨ gg = w.heap.size + 2) (hvF : ∀ g, (Value.slice A L.length cap).ownBlock = some g → g ∈ F) (hn : L.length < 16)
    {w3 : World} (hh : w3.heap = (w1.setCell ⟨r, 0, none⟩ (.slice (some ⟨gg, 0, none⟩) (L.length + 1) cap')).heap) (hos : w3.os = w1.os) (ht : w3.tape = w1.tape) (ho : w3.output = w1.output) :
    Fr F w w3 ∧ ∃ F', RTab w3 r (L ++ [x]) F' ∧ ∀ i ∈ F', i ∈ F ∨ w.heap.size ≤ i := by
  have hgr : gg ≠ r := by
    rintro rfl
    rcases hown.2 with ⟨e, h0⟩ | ⟨g', cap2, cur, e, _, h5, _⟩
    · cases e
    · simp only [Value.slice.injEq, Option.some.injEq, Addr.mk.injEq, and_true, true_and] at e
      obtain ⟨rfl, rfl⟩ := e
      rw [hq] at h5; cases h5
  have hS : Fr [r] w1 (w1.setCell ⟨r, 0, none⟩ (.slice (some ⟨gg, 0, none⟩) (L.length + 1) cap')) := (Fr.refl _ _).setCell1 _ _
  have hS3 : Fr [r] w1 w3 := ⟨hos, ht, ho, by rw [hh]; exact hS.size, fun i hi hm => by rw [hh]; exact hS.block i hi hm⟩
  have hlt : gg < w1.heap.size := (hown.lt gg rfl).2
  refine ⟨hF.trans (hS3.mono fun i hi => .inl (by rw [List.mem_singleton.1 hi]; exact h.rF)), gg :: F, ⟨⟨_, by rw [hh]; exact heap_setCell hq 0 _, ?_, ?_⟩, by simp [h.rF], ?_, by simp; omega⟩, ?_⟩
  · rw [List.length_append, List.flatMap_append]
    have := hown.kept (w' := w3) (row := some r) ⟨hS3.os, hS3.tape, hS3.output, hS3.size, fun i hi hne => hS3.block i hi (by simpa using fun e : i = r => hne (by rw [e]))⟩ (.inr (by simpa [Value.ownBlock] using hgr))
    simpa using this
  · intro g hg
    have : gg = g := by simpa [Value.ownBlock] using hg
    simp [this]
  · intro i hi
    rcases List.mem_cons.1 hi with rfl | hi
    · exact Nat.lt_of_lt_of_le hlt hS3.size
    · exact Nat.lt_of_lt_of_le (h.lt i hi) (Nat.le_trans hF.size hS3.size)
  · intro i hi
    rcases List.mem_cons.1 hi with rfl | hi
    · rcases hat with hat | hat
      · exact .inl (hvF _ hat)
      · exact .inr (by omega)
    · exact .inl hi

set_option maxRecDepth 100000 in
set_option maxHeartbeats 8000000 in
theorem rset_new (h : RTab w r L F) (s : ByteArray) (rate burst now : Int) (hg : goodSet rate burst now) (hs : findR L s = -1) (hn : L.length < 16) :
    Calls Try.prog 40 #[ptr r, .string s, .int .i64 rate, .int .i64 burst, .int .i64 now] w fun e w' => e = .returned (.int .i64 0) ∧ Fr F w w' ∧ ∃ F', RTab w' r (L ++ [⟨s, Bk.new rate burst now⟩]) F' ∧ ∀ i ∈ F', i ∈ F ∨ w.heap.size ≤ i := by
  have HF := Lib.hid (find_any h s)
  rw [hs] at HF
  obtain ⟨g1, g2, g3, g4, g5, g6⟩ := hg
  obtain ⟨v, hr, hrow, hvF⟩ := h.ex
  have hsl : ∃ A cap, v = .slice A L.length cap := by
    rcases hrow.2 with ⟨rfl, h0⟩ | ⟨g, cap, cur, rfl, _⟩
    · exact ⟨none, 0, by rw [h0]⟩
    · exact ⟨_, cap, rfl⟩
  obtain ⟨A, cap, rfl⟩ := hsl
  have c0 : w.cell? ⟨r, 0, none⟩ = some (.slice A L.length cap) := cell_of hr 0
  have fz := frozen_of hr
  have lr := lt_of_obj hr
  have hn' : (L.length : Int) < 16 := by omega
  obtain ⟨i0, hi0, hz0, hz1, hz2⟩ := info_parts info124
  have HH := Lib.hid (And.intro h (And.intro hr (And.intro hrow hvF)))
  clear h hs hrow hr hvF
  go_enter Try.func40, Try.ntmps40
  go_wp2_with (first
    | (go_at_call 64; refine (risTime_yes _ _ g5 g6).mono ?_; rintro e w' ⟨rfl, rfl⟩)
    | (go_at_call 65; refine HF.out.mono ?_; rintro e w' ⟨rfl, rfl⟩))
  have hnew : ∀ j u, ([.string s, .int .i64 rate, .int .i64 burst, .int .i64 burst, .int .i64 0, .int .i64 now, .int .i64 0, .int .i64 0, .int .i64 0] : List Value)[j]? = some u →
      ((w.alloc (.cells #[.string s, .int .i64 rate, .int .i64 burst, .int .i64 burst, .int .i64 0, .int .i64 now, .int .i64 0, .int .i64 0, .int .i64 0] 124)).alloc (.cells #[.string s, .int .i64 rate, .int .i64 burst, .int .i64 burst, .int .i64 0, .int .i64 now, .int .i64 0, .int .i64 0, .int .i64 0] 124)).drew.cell?
        ((⟨w.heap.size + 1, 0, none⟩ : Addr).add j) = some u := by
    intro j u hu
    have h1 := heap_alloc (w.alloc (.cells #[.string s, .int .i64 rate, .int .i64 burst, .int .i64 burst, .int .i64 0, .int .i64 now, .int .i64 0, .int .i64 0, .int .i64 0] 124)) (.cells #[.string s, .int .i64 rate, .int .i64 burst, .int .i64 burst, .int .i64 0, .int .i64 now, .int .i64 0, .int .i64 0, .int .i64 0] 124)
    rw [size_alloc'] at h1
    rw [add_plain' rfl]
    show World.cell? _ _ = _
    rw [cell_of (w := World.drew _) h1]
    simpa using hu
  have HN := Lib.hid hnew
  have hne : (Value.slice A L.length cap).ownBlock ≠ some r := by
    obtain ⟨_, hr, hrow, _⟩ := HH.out
    rcases hrow.2 with ⟨e, h0⟩ | ⟨g, cap', cur, e, _, h5, _⟩
    · rw [e]; simp [Value.ownBlock]
    · rw [e]
      rintro h6
      have h6 : g = r := by simpa [Value.ownBlock] using h6
      subst h6
      rw [hr] at h5; cases h5
  have HQ : Hid (∀ {w1 : World}, Fr ((Value.slice A L.length cap).ownBlock).toList ((w.alloc (.cells #[.string s, .int .i64 rate, .int .i64 burst, .int .i64 burst, .int .i64 0, .int .i64 now, .int .i64 0, .int .i64 0, .int .i64 0] 124)).alloc (.cells #[.string s, .int .i64 rate, .int .i64 burst, .int .i64 burst, .int .i64 0, .int .i64 now, .int .i64 0, .int .i64 0, .int .i64 0] 124)).drew w1 →
      w1.heap[r]? = some (.cells #[.slice A L.length cap] 41 (0, 0))) := fun {w1} hG => hG.obj (Go.Bl.heap_alloc_old (Go.Bl.heap_alloc_old HH.out.2.1 _) _) (by
        intro hm
        exact hne (by simpa using hm))
  clear hne
  clear hnew
  go_region_law ((refine step_append_lies _ rfl (.tmp 60) (.tmp 62) 39 rfl 0 124 i0 _ 9 80 Try.underlying39 hi0 hz0 hz1 hz2 rfl (by omega) (.slice A L.length cap) L.length (L.flatMap RB.list) (by simp [Act.eval]) (((HH.out.2.2.1.alloc _).alloc _).drew) ⟨w.heap.size + 1, 0, none⟩ 1 1 [.string s, .int .i64 rate, .int .i64 burst, .int .i64 burst, .int .i64 0, .int .i64 now, .int .i64 0, .int .i64 0, .int .i64 0] (by simp [Act.eval]) rfl HN.out (by simp [Value.oneCell']) (by omega) (by unfold maxLen; omega) (by omega) (by simp) (w.heap.size + 2) (by simp) ?_; intro gg cap' w1 hown1 hgrow hat hlt; have hG := Fr.of_grownBy hgrow; have hq := HQ.out hG; have hc1 : w1.cell? ⟨r, 0, none⟩ = some (.slice A L.length cap) := cell_of hq 0; have hf1 := frozen_of hq))
  all_goals
    go_wp2
    go_ret
    obtain ⟨hT, hr, hrow, hvF⟩ := HH.out
    have hF0 : Fr F w w1 := ((((Fr.refl F w).alloc _).alloc _).drew).trans (hG.mono fun i hi => .inl (hvF i (by simpa using hi)))
    exact ⟨rfl, rset_end (x := ⟨s, Bk.new rate burst now⟩) hT hF0 hq hown1 hat hvF (by omega) rfl rfl rfl rfl⟩
end
end Go.Proofs.Ytoichcjlfpijeaa
