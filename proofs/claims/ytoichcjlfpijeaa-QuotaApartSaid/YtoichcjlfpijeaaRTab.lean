/- The reference's table: what it is, the walk of find. -/
import Derived.Test.YtoichcjlfpijeaaQAll
import Derived.OwnWalk
import Derived.Laws.OwnMore
import Derived.Deep.RegionHeld3
import Derived.Laws.StructEq
namespace Go.Proofs.Ytoichcjlfpijeaa
open Go.RowKit Go.Bl

structure RB where
  name : ByteArray
  b : Bk
def RB.list (x : RB) : List Value := [.string x.name, .int .i64 x.b.rate, .int .i64 x.b.burst, .int .i64 x.b.has, .int .i64 x.b.part, .int .i64 x.b.at_, .int .i64 x.b.tk, .int .i64 x.b.rf, .int .i64 x.b.cs]
theorem RB.list_length (x : RB) : x.list.length = 9 := rfl

theorem flat_length (L : List RB) : (L.flatMap RB.list).length = L.length * 9 := by
  induction L with
  | nil => rfl
  | cons x L ih => simp [List.flatMap_cons, ih, RB.list_length]; omega
theorem flat_get (L : List RB) (i j : Nat) (hi : i < L.length) (hj : j < 9) : (L.flatMap RB.list)[i * 9 + j]? = (L[i]).list[j]? := by
  induction L generalizing i with
  | nil => simp at hi
  | cons x L ih =>
    rw [List.flatMap_cons]
    cases i with
    | zero => rw [List.getElem?_append_left (by simp [RB.list_length]; omega)]; simp
    | succ i =>
      rw [List.getElem?_append_right (by simp [RB.list_length]; omega), RB.list_length, show (i + 1) * 9 + j - 9 = i * 9 + j from by omega, ih i (by simpa using hi)]
      simp

/-- The reference's table at r holds L. -/
structure RTab (w : World) (r : Nat) (L : List RB) (F : List Nat) : Prop where
  ex : ∃ v, w.heap[r]? = some (.cells #[v] 41 (0, 0)) ∧ w.ownsRow 0 124 9 v L.length (L.flatMap RB.list) ∧ ∀ g, v.ownBlock = some g → g ∈ F
  rF : r ∈ F
  lt : ∀ i ∈ F, i < w.heap.size
  room : L.length ≤ 16

theorem row_cells {w : World} {g cap : Nat} {L : List RB} (h : w.ownsRow 0 124 9 (.slice (some ⟨g, 0, none⟩) L.length cap) L.length (L.flatMap RB.list)) (i : Nat) (hi : i < L.length) (j : Nat) (hj : j < 9) :
    w.cell? ⟨g, i * 9 + j, none⟩ = (L[i]).list[j]? := by
  have h1 := h.cellAt (i * 9 + j) (by omega)
  rw [h1, ← flat_get L i j hi hj]

/-- Where a name stands; -1: nowhere. -/
def findR : List RB → ByteArray → Int
  | [], _ => -1
  | x :: L, s => if x.name = s then 0 else (if findR L s < 0 then -1 else findR L s + 1)
theorem findR_cases (L : List RB) (s : ByteArray) : (findR L s = -1 ∧ ∀ x ∈ L, x.name ≠ s) ∨ ∃ i : Nat, ∃ h : i < L.length, findR L s = i ∧ (L[i]).name = s ∧ ∀ j (hj : j < i), (L[j]'(by omega)).name ≠ s := by
  induction L with
  | nil => exact .inl ⟨rfl, by simp⟩
  | cons x L ih =>
    unfold findR
    by_cases hx : x.name = s
    · exact .inr ⟨0, by simp, by simp [hx], by simp [hx], fun j hj => by omega⟩
    · rw [if_neg hx]
      rcases ih with ⟨h1, h2⟩ | ⟨i, hi, h1, h2, h3⟩
      · exact .inl ⟨by rw [h1]; rfl, by simp [hx]; exact h2⟩
      · refine .inr ⟨i + 1, by simp; omega, by rw [h1, if_neg (by omega)]; omega, by simpa using h2, fun j hj => ?_⟩
        cases j with
        | zero => simpa using hx
        | succ j => simpa using h3 j (by omega)
theorem findR_none {L : List RB} {s : ByteArray} (h : ∀ j (hj : j < L.length), (L[j]).name ≠ s) : findR L s = -1 := by
  rcases findR_cases L s with h1 | ⟨i, hi, _, h2, _⟩
  · exact h1.1
  · exact absurd h2 (h i hi)
theorem findR_at {L : List RB} {s : ByteArray} {k : Nat} (hk : k < L.length) (h1 : (L[k]).name = s) (h : ∀ j (hj : j < k), (L[j]'(by omega)).name ≠ s) : findR L s = k := by
  rcases findR_cases L s with h2 | ⟨i, hi, h2, h3, h4⟩
  · exact absurd h1 (h2.2 _ (List.getElem_mem hk))
  · rcases Nat.lt_trichotomy i k with h5 | h5 | h5
    · exact absurd h3 (h i h5)
    · rw [h2, h5]
    · exact absurd h1 (h4 k h5)
theorem toList_inj {a b : ByteArray} (h : a.toList = b.toList) : a = b := by
  rw [← MapKept.bytes_beq, beq_toListBytes]; simp [h]

set_option maxRecDepth 100000 in
theorem find_any {w : World} {r : Nat} {L : List RB} {F : List Nat} (h : RTab w r L F) (s : ByteArray) :
    Calls Try.prog 65 #[ptr r, .string s] w fun e w' => e = .returned (.int .i64 (findR L s)) ∧ w = w' := by
  obtain ⟨v, hr, hrow, _⟩ := h.ex
  have hroom := h.room
  have c0 : w.cell? ⟨r, 0, none⟩ = some v := cell_of hr 0
  clear h hr
  have hsl : ∃ A cap, v = .slice A L.length cap ∧ (0 < L.length → ∃ g, A = some ⟨g, 0, none⟩) := by
    rcases hrow.2 with ⟨rfl, h0⟩ | ⟨g, cap, cur, rfl, _⟩
    · exact ⟨none, 0, by rw [h0], by omega⟩
    · exact ⟨_, cap, rfl, fun _ => ⟨g, rfl⟩⟩
  obtain ⟨A, cap, rfl, hA⟩ := hsl
  have HROW := Lib.hid (And.intro hrow hA)
  clear hrow hA
  go_enter Try.func65, Try.ntmps65
  go_wp2
  go_loop [5] (fun i => ∃ k : Nat, k ≤ L.length ∧ i = .int .i64 k ∧ Hid (∀ j (hj : j < k) (hl : j < L.length), (L[j]).name ≠ s)) (fun i => L.length - (intOf i).toNat)
  case atStart => exact ⟨0, Nat.zero_le _, rfl, fun j hj => by omega⟩
  case round =>
    obtain ⟨k, hk, rfl, hno⟩ := hrel
    by_cases hlt : k < L.length
    · obtain ⟨hrow, hA⟩ := HROW.out
      obtain ⟨g, rfl⟩ := hA (by omega)
      have c1 := row_cells hrow k hlt 0 (by omega)
      simp only [Nat.add_zero, RB.list, List.getElem?_cons_zero] at c1
      by_cases hx : (L[k]).name = s
      · have hb : ((L[k]).name.toList == s.toList) = true := by rw [hx]; simp
        have HR := Lib.hid (findR_at hlt hx fun j hj => hno.out j hj (by omega))
        clear hrow hA hx
        go_wp2
        go_ret
        exact ⟨ret_int HR.out.symm, rfl⟩
      · have hb : ((L[k]).name.toList == s.toList) = false := by
          cases hq : ((L[k]).name.toList == s.toList)
          · rfl
          · exact absurd (toList_inj (by simpa using hq)) hx
        have HX := Lib.hid hx
        clear hrow hA hx
        go_wp2
        refine ⟨⟨k + 1, by omega, by go_num, fun j hj hl => ?_⟩, by simp [intOf]; omega⟩
        rcases Nat.lt_or_ge j k with h1 | h1
        · exact hno.out j h1 hl
        · obtain rfl : j = k := by omega
          exact HX.out
    · have hk' : k = L.length := by omega
      have HR := Lib.hid (findR_none fun j hj => hno.out j (by omega) hj)
      subst hk'
      go_wp2
      go_ret
      exact ⟨ret_int HR.out.symm, rfl⟩

def RB.set (x : RB) (b : Bk) : RB := ⟨x.name, b⟩
def RB.agg (x : RB) : Value := .agg x.list.toArray

theorem ceil_le {N r n : Int} (hr : 0 < r) : (N + r - 1) / r ≤ n ↔ N ≤ n * r := by
  rw [Int.ediv_le_iff_le_mul hr]
  constructor <;> intro h <;> omega
theorem floor_lt {N r n : Int} (hr : 0 < r) : N / r < n ↔ N < n * r := Int.ediv_lt_iff_lt_mul hr

set_option maxRecDepth 100000 in
set_option maxHeartbeats 4000000 in
theorem filled_any (x : RB) (ok : x.b.Ok) (now : Int) (h0 : 0 ≤ now) (h1 : now ≤ 1125899906842624) (w : World) :
    Calls Try.prog 76 #[x.agg, .int .i64 now] w fun e w' => e = .returned (x.set (fillM x.b now)).agg ∧ Fr [] w w' := by
  obtain ⟨name, b⟩ := x
  obtain ⟨rate, burst, has, part, at_, tk, rf, cs⟩ := b
  obtain ⟨r0, r1, b0, b1, g1, g2, g3, g4, gt, a0, a1, _, _⟩ := ok
  dsimp only at *
  show Calls Try.prog 76 #[.agg #[.string name, .int .i64 rate, .int .i64 burst, .int .i64 has, .int .i64 part, .int .i64 at_, .int .i64 tk, .int .i64 rf, .int .i64 cs], .int .i64 now] w _
  by_cases hle : now ≤ at_
  · have hM : fillM ⟨rate, burst, has, part, at_, tk, rf, cs⟩ now = ⟨rate, burst, has, part, at_, tk, rf, cs⟩ := by unfold fillM; dsimp only; rw [if_pos (by omega)]
    have HM := Lib.hid hM
    clear hM gt
    go_enter Try.func76, Try.ntmps76
    go_wp2
    refine bodyPost_ret (v := .agg #[.string name, .int .i64 rate, .int .i64 burst, .int .i64 has, .int .i64 part, .int .i64 at_, .int .i64 tk, .int .i64 rf, .int .i64 cs]) (by simp [results, Try.results76, go_sem]) rfl ⟨?_, ?_⟩
    · rw [HM.out]; rfl
    · repeat (first | with_reducible exact Fr.refl _ _ | with_reducible refine Fr.alloc ?_ _)
  have hs0 : 0 < now - at_ := by omega
  have hN0 : 0 ≤ (burst - has) * 1000000000 - part := by
    by_cases e : has = burst
    · rw [gt e, e]; omega
    · omega
  have hN1 : (burst - has) * 1000000000 - part ≤ 1000000000000000000 := by omega
  by_cases hr : rate = 0
  · have hrb : (rate == 0) = true := by simp [hr]
    have hrl : ¬ 0 < rate := by omega
    have hM : fillM ⟨rate, burst, has, part, at_, tk, rf, cs⟩ now = ⟨rate, burst, has, part, now, tk, rf, cs⟩ := by unfold fillM; dsimp only; rw [if_neg (by omega), if_pos hr]
    have HM := Lib.hid hM
    clear hM gt hr
    go_enter Try.func76, Try.ntmps76
    go_wp2
    refine bodyPost_ret (v := .agg #[.string name, .int .i64 rate, .int .i64 burst, .int .i64 (has), .int .i64 (part), .int .i64 now, .int .i64 tk, .int .i64 rf, .int .i64 cs]) (by simp [results, Try.results76, go_sem]) rfl ⟨?_, ?_⟩
    · rw [HM.out]; rfl
    · repeat (first | with_reducible exact Fr.refl _ _ | with_reducible refine Fr.alloc ?_ _)
  have hrp : 0 < rate := by omega
  have hrb : (rate == 0) = false := by simp [hr]
  have hf0 : 0 ≤ ((burst - has) * 1000000000 - part) / rate := Int.ediv_nonneg hN0 (by omega)
  have hf1 : ((burst - has) * 1000000000 - part) / rate ≤ (burst - has) * 1000000000 - part := Int.ediv_le_self _ hN0
  have hf9 : ((burst - has) * 1000000000 - part) / rate ≤ 1000000000000000000 := by omega
  have key := @ceil_le ((burst - has) * 1000000000 - part) rate (now - at_) hrp
  have key2 := @floor_lt ((burst - has) * 1000000000 - part) rate (now - at_) hrp
  by_cases hs : ((burst - has) * 1000000000 - part) / rate < now - at_
  · have hM : fillM ⟨rate, burst, has, part, at_, tk, rf, cs⟩ now = ⟨rate, burst, burst, 0, now, tk, rf, cs⟩ := by
      unfold fillM; dsimp only; rw [if_neg (by omega), if_neg hr, if_pos (key.2 (by have := key2.1 hs; omega))]
    have HM := Lib.hid hM
    clear hM gt hr key key2 hf1
    go_enter Try.func76, Try.ntmps76
    go_wp2
    refine bodyPost_ret (v := .agg #[.string name, .int .i64 rate, .int .i64 burst, .int .i64 (burst), .int .i64 (0), .int .i64 now, .int .i64 tk, .int .i64 rf, .int .i64 cs]) (by simp [results, Try.results76, go_sem]) rfl ⟨?_, ?_⟩
    · rw [HM.out]; rfl
    · repeat (first | with_reducible exact Fr.refl _ _ | with_reducible refine Fr.alloc ?_ _)
  have hp0 : 0 ≤ (now - at_) * rate := Int.mul_nonneg (by omega) (by omega)
  have hp1 : (now - at_) * rate ≤ (burst - has) * 1000000000 - part := by
    rcases Int.lt_or_le ((burst - has) * 1000000000 - part) ((now - at_) * rate) with h | h
    · exact absurd (key2.2 h) hs
    · exact h
  have hp9 : (now - at_) * rate ≤ 1000000000000000000 := by omega
  by_cases hq : burst ≤ has + ((now - at_) * rate + part) / 1000000000
  · have hM : fillM ⟨rate, burst, has, part, at_, tk, rf, cs⟩ now = ⟨rate, burst, burst, 0, now, tk, rf, cs⟩ := by
      unfold fillM; dsimp only; rw [if_neg (by omega), if_neg hr, if_pos (key.2 (by omega))]
    have HM := Lib.hid hM
    clear hM gt hr key key2 hf1 hp1
    go_enter Try.func76, Try.ntmps76
    go_wp2
    refine bodyPost_ret (v := .agg #[.string name, .int .i64 rate, .int .i64 burst, .int .i64 (burst), .int .i64 (0), .int .i64 now, .int .i64 tk, .int .i64 rf, .int .i64 cs]) (by simp [results, Try.results76, go_sem]) rfl ⟨?_, ?_⟩
    · rw [HM.out]; rfl
    · repeat (first | with_reducible exact Fr.refl _ _ | with_reducible refine Fr.alloc ?_ _)
  · have hM : fillM ⟨rate, burst, has, part, at_, tk, rf, cs⟩ now = ⟨rate, burst, has + ((now - at_) * rate + part) / 1000000000, ((now - at_) * rate + part) % 1000000000, now, tk, rf, cs⟩ := by
      unfold fillM; dsimp only; rw [if_neg (by omega), if_neg hr, if_neg (fun h => by have := key.1 h; omega), Int.add_comm part]
    have HM := Lib.hid hM
    clear hM gt hr key key2 hf1 hp1
    go_enter Try.func76, Try.ntmps76
    go_wp2
    refine bodyPost_ret (v := .agg #[.string name, .int .i64 rate, .int .i64 burst, .int .i64 (has + ((now - at_) * rate + part) / 1000000000), .int .i64 (((now - at_) * rate + part) % 1000000000), .int .i64 now, .int .i64 tk, .int .i64 rf, .int .i64 cs]) (by simp [results, Try.results76, go_sem]) rfl ⟨?_, ?_⟩
    · rw [HM.out]; rfl
    · repeat (first | with_reducible exact Fr.refl _ _ | with_reducible refine Fr.alloc ?_ _)

/-- The world behind a store of a whole bucket. -/
def set9 (w : World) (g k : Nat) (x : RB) : World :=
  ((((((((w.setCell ⟨g, k * 9, none⟩ (.string x.name)).setCell ⟨g, k * 9 + 1, none⟩ (.int .i64 x.b.rate)).setCell ⟨g, k * 9 + 2, none⟩ (.int .i64 x.b.burst)).setCell ⟨g, k * 9 + 3, none⟩ (.int .i64 x.b.has)).setCell ⟨g, k * 9 + 4, none⟩ (.int .i64 x.b.part)).setCell
    ⟨g, k * 9 + 5, none⟩ (.int .i64 x.b.at_)).setCell ⟨g, k * 9 + 6, none⟩ (.int .i64 x.b.tk)).setCell ⟨g, k * 9 + 7, none⟩ (.int .i64 x.b.rf)).setCell ⟨g, k * 9 + 8, none⟩ (.int .i64 x.b.cs)

theorem flat_set (L : List RB) (k : Nat) (hk : k < L.length) (x : RB) :
    (((((((((L.flatMap RB.list).set (k * 9) (.string x.name)).set (k * 9 + 1) (.int .i64 x.b.rate)).set (k * 9 + 2) (.int .i64 x.b.burst)).set (k * 9 + 3) (.int .i64 x.b.has)).set (k * 9 + 4) (.int .i64 x.b.part)).set (k * 9 + 5) (.int .i64 x.b.at_)).set (k * 9 + 6) (.int .i64 x.b.tk)).set
      (k * 9 + 7) (.int .i64 x.b.rf)).set (k * 9 + 8) (.int .i64 x.b.cs) = (L.set k x).flatMap RB.list := by
  induction L generalizing k with
  | nil => simp at hk
  | cons y L ih =>
    cases k with
    | zero => simp [RB.list]
    | succ k =>
      have ih' := ih k (by simpa using hk)
      have e0 : (k + 1) * 9 = k * 9 + 9 := by omega
      simp only [List.flatMap_cons, List.set_cons_succ, ← ih', e0]
      simp only [RB.list, List.cons_append, List.nil_append, List.set_cons_succ]

theorem row_set9 {w : World} {g cap n : Nat} {L : List RB} (h : w.ownsRow 0 124 9 (.slice (some ⟨g, 0, none⟩) n cap) n (L.flatMap RB.list)) (k : Nat) (hk : k < L.length) (x : RB) :
    (set9 w g k x).ownsRow 0 124 9 (.slice (some ⟨g, 0, none⟩) n cap) n ((L.set k x).flatMap RB.list) := by
  rw [← flat_set L k hk x]
  exact ((((((((((h.stored _ _).1.stored _ _).1.stored _ _).1.stored _ _).1.stored _ _).1.stored _ _).1.stored _ _).1.stored _ _).1.stored _ _).1)

theorem RTab.of_heap {w w' : World} {r : Nat} {L : List RB} {F : List Nat} (h : RTab w r L F) (hh : w'.heap = w.heap) : RTab w' r L F := by
  obtain ⟨v, h1, h2, h3⟩ := h.ex
  refine ⟨⟨v, by rw [hh]; exact h1, ?_, h3⟩, h.rF, by rw [hh]; exact h.lt, h.room⟩
  unfold World.ownsRow at h2 ⊢
  rw [hh]; exact h2
theorem RTab.fr {w w' : World} {r : Nat} {L : List RB} {F S : List Nat} (h : RTab w r L F) (hF : Fr S w w') (hS : ∀ i ∈ F, i ∉ S) : RTab w' r L F := by
  obtain ⟨v, h1, h2, h3⟩ := h.ex
  refine ⟨⟨v, hF.obj h1 (hS _ h.rF), ?_, h3⟩, h.rF, fun i hi => Nat.lt_of_lt_of_le (h.lt i hi) hF.size, h.room⟩
  refine ⟨h2.1, ?_⟩
  rcases h2.2 with ⟨e, h0⟩ | ⟨g, cap, cur, e, h4, h5, h6⟩
  · exact .inl ⟨e, h0⟩
  · exact .inr ⟨g, cap, cur, e, h4, hF.obj h5 (hS g (h3 g (by rw [e]; rfl))), h6⟩
theorem Fr.set9 {S : List Nat} {a b : World} (h : Fr S a b) {g : Nat} (hg : g ∈ S) (k : Nat) (x : RB) : Fr S a (set9 b g k x) := by
  exact (((((((((h.setCell (p := ⟨g, _, none⟩) (.inl hg) _).setCell (p := ⟨g, _, none⟩) (.inl hg) _).setCell (p := ⟨g, _, none⟩) (.inl hg) _).setCell (p := ⟨g, _, none⟩) (.inl hg) _).setCell (p := ⟨g, _, none⟩) (.inl hg) _).setCell (p := ⟨g, _, none⟩) (.inl hg) _).setCell (p := ⟨g, _, none⟩) (.inl hg) _).setCell
    (p := ⟨g, _, none⟩) (.inl hg) _).setCell (p := ⟨g, _, none⟩) (.inl hg) _)
/-- A whole bucket stored into the table's row. -/
theorem RTab.set9 {w : World} {r : Nat} {L : List RB} {F : List Nat} (h : RTab w r L F) {g cap : Nat} (hr : w.heap[r]? = some (.cells #[.slice (some ⟨g, 0, none⟩) L.length cap] 41 (0, 0))) (k : Nat) (hk : k < L.length) (x : RB) : RTab (set9 w g k x) r (L.set k x) F := by
  obtain ⟨v, h1, h2, h3⟩ := h.ex
  rw [h1] at hr
  simp only [Option.some.injEq, Obj.cells.injEq, Array.mk.injEq, List.cons.injEq, and_true] at hr
  subst hr
  have hgr : r ≠ g := by
    rintro rfl
    rcases h2.2 with ⟨e, h0⟩ | ⟨g', cap', cur, e, _, h5, _⟩
    · cases e
    · simp only [Value.slice.injEq, Option.some.injEq, Addr.mk.injEq, and_true, true_and] at e
      obtain ⟨rfl, rfl⟩ := e
      rw [h1] at h5; cases h5
  have hF : Fr [g] w (Go.Proofs.Ytoichcjlfpijeaa.set9 w g k x) := Fr.set9 (Fr.refl [g] w) (List.mem_singleton_self g) k x
  exact ⟨⟨_, hF.obj h1 (by simpa using hgr), by rw [List.length_set]; exact row_set9 h2 k hk x, h3⟩, h.rF, fun i hi => Nat.lt_of_lt_of_le (h.lt i hi) hF.size, by rw [List.length_set]; exact h.room⟩
end Go.Proofs.Ytoichcjlfpijeaa
