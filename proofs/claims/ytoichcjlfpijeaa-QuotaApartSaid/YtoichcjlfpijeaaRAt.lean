/- The reference's table: the walk of at. -/
import Derived.Test.YtoichcjlfpijeaaRTab
import Derived.Test.YtoichcjlfpijeaaQOpsAt
import Derived.Deep.RegionWith
namespace Go.Proofs.Ytoichcjlfpijeaa
open Go.RowKit Go.Bl

theorem risTime_yes (n : Int) (w : World) (h0 : 0 ≤ n) (h1 : n ≤ 1125899906842624) : Calls Try.prog 64 #[.int .i64 n] w fun e w' => e = .returned (.bool true) ∧ w = w' := by
  go_enter Try.func64, Try.ntmps64
  go_wp2
  go_ret
  exact ⟨rfl, rfl⟩
theorem risTime_no (n : Int) (w : World) (h : n < 0 ∨ 1125899906842624 < n) : Calls Try.prog 64 #[.int .i64 n] w fun e w' => e = .returned (.bool false) ∧ w = w' := by
  by_cases h1 : n < 0
  · clear h
    go_enter Try.func64, Try.ntmps64
    go_wp2
    go_ret
    exact ⟨rfl, rfl⟩
  · have h2 : 0 ≤ n := by omega
    have h3 : ¬ n ≤ 1125899906842624 := by omega
    clear h
    go_enter Try.func64, Try.ntmps64
    go_wp2
    go_ret
    exact ⟨rfl, rfl⟩

theorem rat_bad (r : Nat) (s : ByteArray) (c n : Int) (w : World) (h : ¬ good c n) : Calls Try.prog 66 #[ptr r, .string s, .int .i64 c, .int .i64 n] w fun e w' => e = .returned (.tuple #[.int .i64 0, .int .i64 1]) ∧ w = w' := by
  by_cases h1 : c < 0
  · clear h
    go_enter Try.func66, Try.ntmps66
    go_wp2_with fail
    go_ret2
    exact ⟨rfl, rfl⟩
  by_cases h2 : 1000000000 < c
  · clear h
    go_enter Try.func66, Try.ntmps66
    go_wp2_with fail
    go_ret2
    exact ⟨rfl, rfl⟩
  have h3 : n < 0 ∨ 1125899906842624 < n := by unfold good at h; omega
  clear h
  go_enter Try.func66, Try.ntmps66
  go_wp2_with (go_at_call 64; refine (risTime_no _ _ h3).mono ?_; rintro e w' ⟨rfl, rfl⟩)
  go_ret2
  exact ⟨rfl, rfl⟩

theorem rat_none {w : World} {r : Nat} {L : List RB} {F : List Nat} (h : RTab w r L F) (s : ByteArray) (c now : Int) (hg : good c now) (hs : findR L s = -1) :
    Calls Try.prog 66 #[ptr r, .string s, .int .i64 c, .int .i64 now] w fun e w' => e = .returned (.tuple #[.int .i64 0, .int .i64 5]) ∧ w = w' := by
  have hget := find_any h s
  rw [hs] at hget
  have HG := Lib.hid hget
  obtain ⟨g1, g2, g3, g4⟩ := hg
  clear h hget hs
  go_enter Try.func66, Try.ntmps66
  go_wp2_with (first
    | (go_at_call 64; refine (risTime_yes _ _ g3 g4).mono ?_; rintro e w' ⟨rfl, rfl⟩)
    | (go_at_call 65; refine HG.out.mono ?_; rintro e w' ⟨rfl, rfl⟩))
  go_ret2
  exact ⟨rfl, rfl⟩


theorem frozen_fr {w w' : World} (hF : Fr [] w w') {g i : Nat} {v : Value} (hc : w.cell? ⟨g, i, none⟩ = some v) (hz : ∀ o, w.frozen? ⟨g, o, none⟩ = false) (o : Nat) : w'.frozen? ⟨g, o, none⟩ = false := by
  rw [World.frozen?_of_block (w := w) (hF.block g (World.block_lt_of_cell? w _ hc) (by simp))]; exact hz o

set_option maxRecDepth 100000 in
set_option maxHeartbeats 8000000 in
theorem rat_some {w : World} {r : Nat} {L : List RB} {F : List Nat} (h : RTab w r L F) (s : ByteArray) (c now : Int) (hg : good c now) (k : Nat) (hk : k < L.length) (hs : findR L s = k) (ok : (L[k]).b.Ok) :
    Calls Try.prog 66 #[ptr r, .string s, .int .i64 c, .int .i64 now] w fun e w' => e = .returned (.tuple #[.int .i64 k, .int .i64 0]) ∧ RTab w' r (L.set k ((L[k]).set (fillM (L[k]).b now))) F ∧ Fr F w w' := by
  have hget := find_any h s
  rw [hs] at hget
  have HG := Lib.hid hget
  obtain ⟨g1, g2, g3, g4⟩ := hg
  obtain ⟨v, hr, hrow, hvF⟩ := h.ex
  have hroom := h.room
  have c0 : w.cell? ⟨r, 0, none⟩ = some v := cell_of hr 0
  have hv : ∃ g cap, v = .slice (some ⟨g, 0, none⟩) L.length cap := by
    rcases hrow.2 with ⟨_, h0⟩ | ⟨g, cap, cur, rfl, _⟩
    · omega
    · exact ⟨g, cap, rfl⟩
  obtain ⟨g, cap, rfl⟩ := hv
  have HFL : Hid (∀ W, Calls Try.prog 76 #[.agg #[.string (L[k]).name, .int .i64 (L[k]).b.rate, .int .i64 (L[k]).b.burst, .int .i64 (L[k]).b.has, .int .i64 (L[k]).b.part, .int .i64 (L[k]).b.at_, .int .i64 (L[k]).b.tk, .int .i64 (L[k]).b.rf, .int .i64 (L[k]).b.cs], .int .i64 now] W fun e w' =>
      e = .returned (.agg #[.string (L[k]).name, .int .i64 (fillM (L[k]).b now).rate, .int .i64 (fillM (L[k]).b now).burst, .int .i64 (fillM (L[k]).b now).has, .int .i64 (fillM (L[k]).b now).part, .int .i64 (fillM (L[k]).b now).at_, .int .i64 (fillM (L[k]).b now).tk, .int .i64 (fillM (L[k]).b now).rf, .int .i64 (fillM (L[k]).b now).cs]) ∧ Fr [] W w') :=
    fun W => filled_any (L[k]) ok now g3 g4 W
  have cj := row_cells hrow k hk
  have d0 := cj 0 (by omega)
  have d1 := cj 1 (by omega)
  have d2 := cj 2 (by omega)
  have d3 := cj 3 (by omega)
  have d4 := cj 4 (by omega)
  have d5 := cj 5 (by omega)
  have d6 := cj 6 (by omega)
  have d7 := cj 7 (by omega)
  have d8 := cj 8 (by omega)
  have hfz := hrow.frozenAt
  simp only [RB.list, List.getElem?_cons_zero, List.getElem?_cons_succ, Nat.add_zero] at d0 d1 d2 d3 d4 d5 d6 d7 d8
  have HH := Lib.hid (And.intro h (And.intro hrow hr))
  clear cj h hrow hr hs hget
  go_enter Try.func66, Try.ntmps66
  go_wp2_with (first
    | (go_at_call 64; refine (risTime_yes _ _ g3 g4).mono ?_; rintro e w' ⟨rfl, rfl⟩)
    | (go_at_call 65; refine HG.out.mono ?_; rintro e w' ⟨rfl, rfl⟩))
  go_region_with (go_at_call 76; refine (HFL.out _).mono ?_; rintro e w' ⟨rfl, hF⟩; have e0 := cell_fr hF d0 (by simp); have e1 := cell_fr hF d1 (by simp); have e2 := cell_fr hF d2 (by simp); have e3 := cell_fr hF d3 (by simp); have e4 := cell_fr hF d4 (by simp); have e5 := cell_fr hF d5 (by simp); have e6 := cell_fr hF d6 (by simp); have e7 := cell_fr hF d7 (by simp); have e8 := cell_fr hF d8 (by simp); have er := cell_fr hF c0 (by simp); have ez := frozen_fr hF d0 hfz)
  all_goals
    go_wp2
    go_ret2
    have hF := hF.of_drew
    refine ⟨rfl, ((HH.out.1.fr hF (fun _ _ => by simp)).set9 (hF.obj HH.out.2.2 (by simp)) k hk ((L[k]).set (fillM (L[k]).b now))).of_heap rfl, ?_⟩
    repeat (first | with_reducible refine Fr.drew ?_ | with_reducible refine Fr.drewN ?_ _)
    exact Fr.set9 (hF.mono (by simp)) (hvF g rfl) k ((L[k]).set (fillM (L[k]).b now))
end Go.Proofs.Ytoichcjlfpijeaa
