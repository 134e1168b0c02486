/- The reference's table: Give, Tokens, Next, Counts. -/
import Derived.Test.YtoichcjlfpijeaaROps
namespace Go.Proofs.Ytoichcjlfpijeaa
open Go.RowKit Go.Bl

section
variable {w : World} {r : Nat} {L : List RB} {F : List Nat}

theorem rgive_bad (r : Nat) (s : ByteArray) (c n : Int) (w : World) (h : ¬ good c n) : Calls Try.prog 42 #[ptr r, .string s, .int .i64 c, .int .i64 n] w fun e w' => e = .returned (.int .i64 1) ∧ w = w' := by
  have H := Lib.hid (rat_bad r s c n w h)
  clear h
  go_enter Try.func42, Try.ntmps42
  go_wp2_with (go_at_call 66; refine H.out.mono ?_; rintro e w' ⟨rfl, rfl⟩)
  go_ret
  exact ⟨rfl, rfl⟩
theorem rgive_none (h : RTab w r L F) (s : ByteArray) (c now : Int) (hg : good c now) (hs : findR L s = -1) :
    Calls Try.prog 42 #[ptr r, .string s, .int .i64 c, .int .i64 now] w fun e w' => e = .returned (.int .i64 5) ∧ w = w' := by
  have H := Lib.hid (rat_none h s c now hg hs)
  clear h hg hs
  go_enter Try.func42, Try.ntmps42
  go_wp2_with (go_at_call 66; refine H.out.mono ?_; rintro e w' ⟨rfl, rfl⟩)
  go_ret
  exact ⟨rfl, rfl⟩
set_option maxRecDepth 100000 in
set_option maxHeartbeats 8000000 in
theorem rgive_some (h : RTab w r L F) (s : ByteArray) (c now : Int) (hg : good c now) (k : Nat) (x : RB) (hx : L[k]? = some x) (hs : findR L s = k) (ok : x.b.Ok) :
    Calls Try.prog 42 #[ptr r, .string s, .int .i64 c, .int .i64 now] w fun e w' => e = .returned (.int .i64 0) ∧ RTab w' r (L.set k (x.set (giveB (fillM x.b now) c))) F ∧ Fr F w w' := by
  have H := Lib.hid (rat_after h s c now hg k x hx hs ok)
  have ok1 := fillM_ok x.b ok now hg.2.2.1 hg.2.2.2
  obtain ⟨g1, g2, g3, g4⟩ := hg
  have hroom := h.room
  have hk : k < L.length := (List.getElem?_eq_some_iff.1 hx).1
  generalize fillM x.b now = b1 at H ok1 ⊢
  have x1 := ok1.has0
  have x2 := ok1.has1
  have x3 := ok1.burst1
  clear h hs ok hx
  by_cases hge : b1.burst ≤ b1.has + c
  · have HB : Hid (giveB b1 c = { b1 with has := b1.burst, part := 0 }) := if_pos hge
    go_enter Try.func42, Try.ntmps42
    go_wp2_with fail
    refine H.out.mono ?_
    rintro e w' ⟨rfl, L1, g, cap, hA⟩
    obtain ⟨d0, d1, d2, d3, d4, d5, d6, d7, d8⟩ := hA.op.c
    have c0 : w'.cell? ⟨r, 0, none⟩ = some (.slice (some ⟨g, 0, none⟩) L1.length cap) := cell_of hA.op.hr 0
    have fz := hA.op.fz
    have lr := lt_of_obj hA.op.hr
    have lg := World.block_lt_of_cell? w' _ d0
    dsimp only [RB.set] at d0 d1 d2 d3 d4 d5 d6 d7 d8 lg
    have hk1 := hA.k1
    go_wp2_with fail
    go_region
    go_wp2
    go_ret
    rw [HB.out]
    refine ⟨rfl, hA.done (x.set { b1 with has := b1.burst, part := 0 }) ?_⟩
    repeat (first | with_reducible refine Fr.drew ?_ | with_reducible refine Fr.drewN ?_ _ | with_reducible refine Fr.alloc ?_ _)
    exact Fr.refl _ _
  · have HB : Hid (giveB b1 c = { b1 with has := b1.has + c }) := if_neg hge
    go_enter Try.func42, Try.ntmps42
    go_wp2_with fail
    refine H.out.mono ?_
    rintro e w' ⟨rfl, L1, g, cap, hA⟩
    obtain ⟨d0, d1, d2, d3, d4, d5, d6, d7, d8⟩ := hA.op.c
    have c0 : w'.cell? ⟨r, 0, none⟩ = some (.slice (some ⟨g, 0, none⟩) L1.length cap) := cell_of hA.op.hr 0
    have fz := hA.op.fz
    have lr := lt_of_obj hA.op.hr
    have lg := World.block_lt_of_cell? w' _ d0
    dsimp only [RB.set] at d0 d1 d2 d3 d4 d5 d6 d7 d8 lg
    have hk1 := hA.k1
    go_wp2_with fail
    go_region
    go_wp2
    go_ret
    rw [HB.out]
    refine ⟨rfl, hA.done (x.set { b1 with has := b1.has + c }) ?_⟩
    repeat (first | with_reducible refine Fr.drew ?_ | with_reducible refine Fr.drewN ?_ _ | with_reducible refine Fr.alloc ?_ _)
    exact Fr.refl _ _

theorem rtok_bad (r : Nat) (s : ByteArray) (n : Int) (w : World) (h : ¬ good 0 n) : Calls Try.prog 43 #[ptr r, .string s, .int .i64 n] w fun e w' => e = .returned (.tuple #[.int .i64 0, .int .i64 1]) ∧ w = w' := by
  have H := Lib.hid (rat_bad r s 0 n w h)
  clear h
  go_enter Try.func43, Try.ntmps43
  go_wp2_with (go_at_call 66; refine H.out.mono ?_; rintro e w' ⟨rfl, rfl⟩)
  go_ret2
  exact ⟨rfl, rfl⟩
theorem rtok_none (h : RTab w r L F) (s : ByteArray) (now : Int) (hg : good 0 now) (hs : findR L s = -1) :
    Calls Try.prog 43 #[ptr r, .string s, .int .i64 now] w fun e w' => e = .returned (.tuple #[.int .i64 0, .int .i64 5]) ∧ w = w' := by
  have H := Lib.hid (rat_none h s 0 now hg hs)
  clear h hg hs
  go_enter Try.func43, Try.ntmps43
  go_wp2_with (go_at_call 66; refine H.out.mono ?_; rintro e w' ⟨rfl, rfl⟩)
  go_ret2
  exact ⟨rfl, rfl⟩
set_option maxRecDepth 100000 in
theorem rtok_some (h : RTab w r L F) (s : ByteArray) (now : Int) (hg : good 0 now) (k : Nat) (x : RB) (hx : L[k]? = some x) (hs : findR L s = k) (ok : x.b.Ok) :
    Calls Try.prog 43 #[ptr r, .string s, .int .i64 now] w fun e w' => e = .returned (.tuple #[.int .i64 (fillM x.b now).has, .int .i64 0]) ∧ RTab w' r (L.set k (x.set (fillM x.b now))) F ∧ Fr F w w' := by
  have H := Lib.hid (rat_after h s 0 now hg k x hx hs ok)
  have hroom := h.room
  have hk : k < L.length := (List.getElem?_eq_some_iff.1 hx).1
  generalize fillM x.b now = b1 at H ⊢
  clear h hs ok hx hg
  go_enter Try.func43, Try.ntmps43
  go_wp2_with fail
  refine H.out.mono ?_
  rintro e w' ⟨rfl, L1, g, cap, hA⟩
  obtain ⟨d0, d1, d2, d3, d4, d5, d6, d7, d8⟩ := hA.op.c
  have c0 : w'.cell? ⟨r, 0, none⟩ = some (.slice (some ⟨g, 0, none⟩) L1.length cap) := cell_of hA.op.hr 0
  dsimp only [RB.set] at d0 d1 d2 d3 d4 d5 d6 d7 d8
  have hk1 := hA.k1
  go_wp2_with fail
  go_ret2
  exact ⟨rfl, hA.eq ▸ hA.tab, hA.fr⟩

theorem rnext_bad (r : Nat) (s : ByteArray) (c n : Int) (w : World) (h : ¬ good c n) : Calls Try.prog 44 #[ptr r, .string s, .int .i64 c, .int .i64 n] w fun e w' => e = .returned (.tuple #[.int .i64 0, .int .i64 1]) ∧ w = w' := by
  have H := Lib.hid (rat_bad r s c n w h)
  clear h
  go_enter Try.func44, Try.ntmps44
  go_wp2_with (go_at_call 66; refine H.out.mono ?_; rintro e w' ⟨rfl, rfl⟩)
  go_ret2
  exact ⟨rfl, rfl⟩
theorem rnext_none (h : RTab w r L F) (s : ByteArray) (c now : Int) (hg : good c now) (hs : findR L s = -1) :
    Calls Try.prog 44 #[ptr r, .string s, .int .i64 c, .int .i64 now] w fun e w' => e = .returned (.tuple #[.int .i64 0, .int .i64 5]) ∧ w = w' := by
  have H := Lib.hid (rat_none h s c now hg hs)
  clear h hg hs
  go_enter Try.func44, Try.ntmps44
  go_wp2_with (go_at_call 66; refine H.out.mono ?_; rintro e w' ⟨rfl, rfl⟩)
  go_ret2
  exact ⟨rfl, rfl⟩
end
end Go.Proofs.Ytoichcjlfpijeaa
