/- The reference's table: Take, Give, Tokens, Counts. -/
import Derived.Test.YtoichcjlfpijeaaRAt
import Derived.Test.YtoichcjlfpijeaaQOps2
namespace Go.Proofs.Ytoichcjlfpijeaa
open Go.RowKit Go.Bl

/-- The cells of one bucket of the table. -/
structure ROpen (w : World) (r : Nat) (L : List RB) (F : List Nat) (k g cap : Nat) (x : RB) : Prop where
  hr : w.heap[r]? = some (.cells #[.slice (some ⟨g, 0, none⟩) L.length cap] 41 (0, 0))
  gF : g ∈ F
  ne : r ≠ g
  c : w.cell? ⟨g, k * 9, none⟩ = some (.string x.name) ∧ w.cell? ⟨g, k * 9 + 1, none⟩ = some (.int .i64 x.b.rate) ∧ w.cell? ⟨g, k * 9 + 2, none⟩ = some (.int .i64 x.b.burst) ∧ w.cell? ⟨g, k * 9 + 3, none⟩ = some (.int .i64 x.b.has) ∧
    w.cell? ⟨g, k * 9 + 4, none⟩ = some (.int .i64 x.b.part) ∧ w.cell? ⟨g, k * 9 + 5, none⟩ = some (.int .i64 x.b.at_) ∧ w.cell? ⟨g, k * 9 + 6, none⟩ = some (.int .i64 x.b.tk) ∧ w.cell? ⟨g, k * 9 + 7, none⟩ = some (.int .i64 x.b.rf) ∧
    w.cell? ⟨g, k * 9 + 8, none⟩ = some (.int .i64 x.b.cs)
  fz : ∀ o, w.frozen? ⟨g, o, none⟩ = false

theorem RTab.open {w : World} {r : Nat} {L : List RB} {F : List Nat} (h : RTab w r L F) (k : Nat) (hk : k < L.length) : ∃ g cap, ROpen w r L F k g cap (L[k]) := by
  obtain ⟨v, hr, hrow, hvF⟩ := h.ex
  have hv : ∃ g cap, v = .slice (some ⟨g, 0, none⟩) L.length cap := by
    rcases hrow.2 with ⟨_, h0⟩ | ⟨g, cap, cur, rfl, _⟩
    · omega
    · exact ⟨g, cap, rfl⟩
  obtain ⟨g, cap, rfl⟩ := hv
  have cj := row_cells hrow k hk
  refine ⟨g, cap, hr, hvF g rfl, ?_, ⟨cj 0 (by omega), cj 1 (by omega), cj 2 (by omega), cj 3 (by omega), cj 4 (by omega), cj 5 (by omega), cj 6 (by omega), cj 7 (by omega), cj 8 (by omega)⟩, hrow.frozenAt⟩
  rintro rfl
  rcases hrow.2 with ⟨e, h0⟩ | ⟨g', cap', cur, e, _, h5, _⟩
  · cases e
  · simp only [Value.slice.injEq, Option.some.injEq, Addr.mk.injEq, and_true, true_and] at e
    obtain ⟨rfl, rfl⟩ := e
    rw [hr] at h5; cases h5

theorem rtake_bad (r : Nat) (s : ByteArray) (c n : Int) (w : World) (h : ¬ good c n) : Calls Try.prog 41 #[ptr r, .string s, .int .i64 c, .int .i64 n] w fun e w' => e = .returned (.int .i64 1) ∧ w = w' := by
  have H := Lib.hid (rat_bad r s c n w h)
  clear h
  go_enter Try.func41, Try.ntmps41
  go_wp2_with (go_at_call 66; refine H.out.mono ?_; rintro e w' ⟨rfl, rfl⟩)
  go_ret
  exact ⟨rfl, rfl⟩
theorem rtake_none {w : World} {r : Nat} {L : List RB} {F : List Nat} (h : RTab w r L F) (s : ByteArray) (c now : Int) (hg : good c now) (hs : findR L s = -1) :
    Calls Try.prog 41 #[ptr r, .string s, .int .i64 c, .int .i64 now] w fun e w' => e = .returned (.int .i64 5) ∧ w = w' := by
  have H := Lib.hid (rat_none h s c now hg hs)
  clear h hg hs
  go_enter Try.func41, Try.ntmps41
  go_wp2_with (go_at_call 66; refine H.out.mono ?_; rintro e w' ⟨rfl, rfl⟩)
  go_ret
  exact ⟨rfl, rfl⟩

/-- What the bucket's turn up to a time leaves. -/
structure RAfter (w w' : World) (r : Nat) (L L1 : List RB) (F : List Nat) (k g cap : Nat) (x : RB) : Prop where
  tab : RTab w' r L1 F
  op : ROpen w' r L1 F k g cap x
  k1 : k < L1.length
  len : L1.length = L.length
  set : ∀ z, L1.set k z = L.set k z
  eq : L1 = L.set k x
  fr : Fr F w w'

theorem rat_after {w : World} {r : Nat} {L : List RB} {F : List Nat} (h : RTab w r L F) (s : ByteArray) (c now : Int) (hg : good c now) (k : Nat) (x : RB) (hx : L[k]? = some x) (hs : findR L s = k) (ok : x.b.Ok) :
    Calls Try.prog 66 #[ptr r, .string s, .int .i64 c, .int .i64 now] w fun e w' => e = .returned (.tuple #[.int .i64 k, .int .i64 0]) ∧ ∃ L1 g cap, RAfter w w' r L L1 F k g cap (x.set (fillM x.b now)) := by
  obtain ⟨hk, hx⟩ := List.getElem?_eq_some_iff.1 hx
  subst hx
  refine (rat_some h s c now hg k hk hs ok).mono ?_
  rintro e w' ⟨rfl, hT, hF⟩
  have hlen : (L.set k ((L[k]).set (fillM (L[k]).b now))).length = L.length := List.length_set ..
  obtain ⟨g, cap, hO⟩ := hT.open k (by omega)
  have hget : (L.set k ((L[k]).set (fillM (L[k]).b now)))[k]'(by omega) = (L[k]).set (fillM (L[k]).b now) := by simp
  rw [hget] at hO
  exact ⟨rfl, _, g, cap, hT, hO, by omega, hlen, fun z => List.set_set .., rfl, hF⟩

/-- The end: the bucket stored back. -/
theorem RAfter.done {w w' : World} {r : Nat} {L L1 : List RB} {F : List Nat} {k g cap : Nat} {x : RB} (h : RAfter w w' r L L1 F k g cap x) (y : RB) {w3 : World} (hF : Fr [] (set9 w' g k y) w3) : RTab w3 r (L.set k y) F ∧ Fr F w w3 := by
  have hT := h.tab.set9 h.op.hr k h.k1 y
  rw [h.set] at hT
  exact ⟨hT.fr hF (fun _ _ => by simp), (Fr.set9 h.fr h.op.gF k y).trans (hF.mono (by simp))⟩

set_option maxRecDepth 100000 in
set_option maxHeartbeats 8000000 in
theorem rtake_some {w : World} {r : Nat} {L : List RB} {F : List Nat} (h : RTab w r L F) (s : ByteArray) (c now : Int) (hg : good c now) (k : Nat) (x : RB) (hx : L[k]? = some x) (hs : findR L s = k) (ok : x.b.Ok) :
    Calls Try.prog 41 #[ptr r, .string s, .int .i64 c, .int .i64 now] w fun e w' => e = .returned (.int .i64 (takeE (fillM x.b now) c)) ∧ RTab w' r (L.set k (x.set (takeB (fillM x.b now) c))) F ∧ Fr F w w' := by
  have H := Lib.hid (rat_after h s c now hg k x hx hs ok)
  have ok1 := fillM_ok x.b ok now hg.2.2.1 hg.2.2.2
  obtain ⟨g1, g2, g3, g4⟩ := hg
  have hroom := h.room
  have hk : k < L.length := (List.getElem?_eq_some_iff.1 hx).1
  generalize fillM x.b now = b1 at H ok1 ⊢
  have x1 := ok1.has0
  have x2 := ok1.has1
  have x3 := ok1.burst1
  have x4 := ok1.cs0
  have x5 := ok1.cs1
  clear h hs ok hx
  by_cases hlt : b1.has < c
  · have hE : takeE b1 c = 190 := if_pos hlt
    have hB : takeB b1 c = { b1 with rf := wrap64 (b1.rf + 1) } := if_pos hlt
    have HE := Lib.hid hE
    have HB := Lib.hid hB
    clear hE hB
    go_enter Try.func41, Try.ntmps41
    go_wp2_with fail
    refine H.out.mono ?_
    rintro e w' ⟨rfl, L1, g, cap, hA⟩
    obtain ⟨d0, d1, d2, d3, d4, d5, d6, d7, d8⟩ := hA.op.c
    have c0 : w'.cell? ⟨r, 0, none⟩ = some (.slice (some ⟨g, 0, none⟩) L1.length cap) := cell_of hA.op.hr 0
    have fz := hA.op.fz
    have lr := lt_of_obj hA.op.hr
    have lg := World.block_lt_of_cell? w' _ d0
    dsimp only [RB.set] at d0 d1 d2 d3 d4 d5 d6 d7 d8 lg
    have hk1 := hA.k1
    go_wp2_with fail
    go_region
    go_wp2
    go_ret
    rw [HE.out, HB.out]
    refine ⟨rfl, hA.done (x.set { b1 with rf := wrap64 (b1.rf + 1) }) ?_⟩
    repeat (first | with_reducible refine Fr.drew ?_ | with_reducible refine Fr.drewN ?_ _ | with_reducible refine Fr.alloc ?_ _)
    exact Fr.refl _ _
  · have hE : takeE b1 c = 0 := if_neg hlt
    by_cases hm : b1.cs + c ≤ 4611686018427387904
    · have hB : takeB b1 c = { b1 with has := b1.has - c, tk := wrap64 (b1.tk + 1), cs := b1.cs + c } := by rw [takeB, if_neg hlt, if_pos hm]
      have HE := Lib.hid hE
      have HB := Lib.hid hB
      clear hE hB
      go_enter Try.func41, Try.ntmps41
      go_wp2_with fail
      refine H.out.mono ?_
      rintro e w' ⟨rfl, L1, g, cap, hA⟩
      obtain ⟨d0, d1, d2, d3, d4, d5, d6, d7, d8⟩ := hA.op.c
      have c0 : w'.cell? ⟨r, 0, none⟩ = some (.slice (some ⟨g, 0, none⟩) L1.length cap) := cell_of hA.op.hr 0
      have fz := hA.op.fz
      have lr := lt_of_obj hA.op.hr
      have lg := World.block_lt_of_cell? w' _ d0
      dsimp only [RB.set] at d0 d1 d2 d3 d4 d5 d6 d7 d8 lg
      have hk1 := hA.k1
      go_wp2_with fail
      go_region
      go_wp2
      go_ret
      rw [HE.out, HB.out]
      refine ⟨rfl, hA.done (x.set { b1 with has := b1.has - c, tk := wrap64 (b1.tk + 1), cs := b1.cs + c }) ?_⟩
      repeat (first | with_reducible refine Fr.drew ?_ | with_reducible refine Fr.drewN ?_ _ | with_reducible refine Fr.alloc ?_ _)
      exact Fr.refl _ _
    · have hB : takeB b1 c = { b1 with has := b1.has - c, tk := wrap64 (b1.tk + 1), cs := 4611686018427387904 } := by rw [takeB, if_neg hlt, if_neg hm]
      have HE := Lib.hid hE
      have HB := Lib.hid hB
      clear hE hB
      go_enter Try.func41, Try.ntmps41
      go_wp2_with fail
      refine H.out.mono ?_
      rintro e w' ⟨rfl, L1, g, cap, hA⟩
      obtain ⟨d0, d1, d2, d3, d4, d5, d6, d7, d8⟩ := hA.op.c
      have c0 : w'.cell? ⟨r, 0, none⟩ = some (.slice (some ⟨g, 0, none⟩) L1.length cap) := cell_of hA.op.hr 0
      have fz := hA.op.fz
      have lr := lt_of_obj hA.op.hr
      have lg := World.block_lt_of_cell? w' _ d0
      dsimp only [RB.set] at d0 d1 d2 d3 d4 d5 d6 d7 d8 lg
      have hk1 := hA.k1
      go_wp2_with fail
      go_region
      go_wp2
      go_ret
      rw [HE.out, HB.out]
      refine ⟨rfl, hA.done (x.set { b1 with has := b1.has - c, tk := wrap64 (b1.tk + 1), cs := 4611686018427387904 }) ?_⟩
      repeat (first | with_reducible refine Fr.drew ?_ | with_reducible refine Fr.drewN ?_ _ | with_reducible refine Fr.alloc ?_ _)
      exact Fr.refl _ _
end Go.Proofs.Ytoichcjlfpijeaa
