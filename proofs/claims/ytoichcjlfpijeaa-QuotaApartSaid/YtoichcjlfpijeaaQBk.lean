/- Buckets: what they are, the walks of missing, full, fill. -/
import Derived.Test.YtoichcjlfpijeaaProg
import Derived.Test.YtoichcjlfpijeaaBase
import Derived.Deep.QuietTactic
import Derived.BigQuiet
import Derived.RegionTactic
import Derived.ChangeAlike
import Derived.StillTailTactics
import Derived.Lib.Hide
import Derived.Outline
namespace Go.Proofs.Ytoichcjlfpijeaa
open Go.RowKit Go.Bl

structure Bk where
  rate : Int
  burst : Int
  has : Int
  part : Int
  at_ : Int
  tk : Int
  rf : Int
  cs : Int

def Bk.cells (b : Bk) : Array Value := #[.int .i64 b.rate, .int .i64 b.burst, .int .i64 b.has, .int .i64 b.part, .int .i64 b.at_, .int .i64 b.tk, .int .i64 b.rf, .int .i64 b.cs]
def BkAt (w : World) (k : Nat) (b : Bk) : Prop := w.heap[k]? = some (.cells b.cells 89 (0, 0))

structure Bk.Ok (b : Bk) : Prop where
  rate0 : 0 ≤ b.rate
  rate1 : b.rate ≤ 1000000000
  burst0 : 1 ≤ b.burst
  burst1 : b.burst ≤ 1000000000
  has0 : 0 ≤ b.has
  has1 : b.has ≤ b.burst
  part0 : 0 ≤ b.part
  part1 : b.part < 1000000000
  top : b.has = b.burst → b.part = 0
  at0 : 0 ≤ b.at_
  at1 : b.at_ ≤ 1125899906842624
  cs0 : 0 ≤ b.cs
  cs1 : b.cs ≤ 4611686018427387904

theorem bk_cells {w : World} {k : Nat} {b : Bk} (h : BkAt w k b) :
    w.cell? ⟨k, 0, none⟩ = some (.int .i64 b.rate) ∧ w.cell? ⟨k, 1, none⟩ = some (.int .i64 b.burst) ∧ w.cell? ⟨k, 2, none⟩ = some (.int .i64 b.has) ∧ w.cell? ⟨k, 3, none⟩ = some (.int .i64 b.part) ∧
    w.cell? ⟨k, 4, none⟩ = some (.int .i64 b.at_) ∧ w.cell? ⟨k, 5, none⟩ = some (.int .i64 b.tk) ∧ w.cell? ⟨k, 6, none⟩ = some (.int .i64 b.rf) ∧ w.cell? ⟨k, 7, none⟩ = some (.int .i64 b.cs) ∧ ∀ o, w.frozen? ⟨k, o, none⟩ = false :=
  ⟨cell_of h 0, cell_of h 1, cell_of h 2, cell_of h 3, cell_of h 4, cell_of h 5, cell_of h 6, cell_of h 7, frozen_of h⟩

/-- A store into a bucket. -/
theorem bk_set {w : World} {k : Nat} {b : Bk} (h : BkAt w k b) (o : Nat) (v : Value) : (w.setCell ⟨k, o, none⟩ v).heap[k]? = some (.cells (b.cells.setIfInBounds o v) 89 (0, 0)) := heap_setCell h o v

theorem missing_any (k : Nat) (b : Bk) (w : World) (hb : BkAt w k b) (ok : b.Ok) (n : Int) (h5 : 0 ≤ n) (h6 : n ≤ 1000000000) :
    Calls Try.prog 60 #[.pointer (some ⟨k, 0, none⟩), .int .i64 n] w fun e w' => e = .returned (.int .i64 ((n - b.has) * 1000000000 - b.part)) ∧ ∃ j, w' = w.drewN j := by
  obtain ⟨_, _, c2, c3, _⟩ := bk_cells hb
  obtain ⟨rate, burst, has, part, at_, tk, rf, cs⟩ := b
  obtain ⟨_, _, _, hb1, h1, h2, h3, h4, _, _, _, _, _⟩ := ok
  dsimp only at *
  clear hb
  go_enter Try.func60, Try.ntmps60
  go_wp2
  go_quiet (fail)
  go_wp2
  go_ret
  exact ⟨rfl, nq, rfl⟩

theorem full_any (k : Nat) (b : Bk) (w : World) (hb : BkAt w k b) :
    Calls Try.prog 62 #[.pointer (some ⟨k, 0, none⟩)] w fun e w' => e = .returned (.tuple #[]) ∧ BkAt w' k { b with has := b.burst, part := 0 } ∧ Fr [k] w w' := by
  obtain ⟨_, c1, c2, c3, _, _, _, _, fz⟩ := bk_cells hb
  go_enter Try.func62, Try.ntmps62
  go_wp2
  go_end0
  refine ⟨rfl, ?_, ((Fr.refl _ _).setCell (by simp) _).setCell (by simp) _⟩
  rw [BkAt, heap_setCell (heap_setCell hb 2 _) 3 _]; rfl

def fillM (b : Bk) (now : Int) : Bk :=
  if now - b.at_ ≤ 0 then b else
  if b.rate = 0 then { b with at_ := now } else
  if ((b.burst - b.has) * 1000000000 - b.part + b.rate - 1) / b.rate ≤ now - b.at_ then { b with at_ := now, has := b.burst, part := 0 } else
  { b with at_ := now, has := b.has + (b.part + (now - b.at_) * b.rate) / 1000000000, part := (b.part + (now - b.at_) * b.rate) % 1000000000 }

theorem fill_any (k : Nat) (b : Bk) (w : World) (hb : BkAt w k b) (ok : b.Ok) (now : Int) (h0 : 0 ≤ now) (h1 : now ≤ 1125899906842624) :
    Calls Try.prog 63 #[.pointer (some ⟨k, 0, none⟩), .int .i64 now] w fun e w' => e = .returned (.tuple #[]) ∧ BkAt w' k (fillM b now) ∧ Fr [k] w w' := by
  obtain ⟨c0, c1, c2, c3, c4, _, _, _, fz⟩ := bk_cells hb
  have ha0 := ok.at0
  have ha1 := ok.at1
  by_cases hle : now - b.at_ ≤ 0
  · have hr : BkAt w k (fillM b now) ∧ Fr [k] w w := by rw [fillM, if_pos hle]; exact ⟨hb, Fr.refl _ _⟩
    go_enter Try.func63, Try.ntmps63
    go_wp2
    exact bodyPost_ret (v := .tuple #[]) (by simp [results, Try.results63, go_sem]) rfl ⟨rfl, hr⟩
  · have hlt : 0 < now - b.at_ := by omega
    have hb1 : BkAt (w.setCell ⟨k, 4, none⟩ (.int .i64 now)) k { b with at_ := now } := by rw [BkAt, heap_setCell hb 4 _]; rfl
    have ok1 : ({ b with at_ := now } : Bk).Ok := { ok with at0 := h0, at1 := h1 }
    have hF : Fr [k] w (w.setCell ⟨k, 4, none⟩ (.int .i64 now)) := (Fr.refl _ _).setCell (by simp) _
    have hb0 := ok.burst0
    have hb9 := ok.burst1
    have hm := missing_any k _ _ hb1 ok1 b.burst (by omega) ok.burst1
    dsimp only at hm
    have HM := Lib.hid hm
    clear hm
    by_cases hr0 : b.rate = 0
    · have hrt : (b.rate == 0) = true := by simp [hr0]
      have hM : fillM b now = { b with at_ := now } := by rw [fillM, if_neg hle, if_pos hr0]
      clear hr0
      go_enter Try.func63, Try.ntmps63
      go_wp2_with (go_at_call 60; refine HM.out.mono ?_; rintro e w' ⟨rfl, j, rfl⟩)
      go_end0
      exact ⟨rfl, by rw [hM]; exact hb1, hF.drewN j⟩
    · have hrt : (b.rate == 0) = false := by simp [hr0]
      have hr1 := ok.rate0
      have hr2 := ok.rate1
      have g1 := ok.has0
      have g2 := ok.has1
      have g3 := ok.part0
      have g4 := ok.part1
      have gt := ok.top
      have hrp : 0 < b.rate := by omega
      have hN0 : 0 ≤ (b.burst - b.has) * 1000000000 - b.part := by
        by_cases e : b.has = b.burst
        · rw [gt e, e]; omega
        · omega
      have hN1 : (b.burst - b.has) * 1000000000 - b.part ≤ 1000000000000000000 := by omega
      have hq0 : 0 ≤ ((b.burst - b.has) * 1000000000 - b.part + b.rate - 1) / b.rate := Int.ediv_nonneg (by omega) (by omega)
      have hq1 : ((b.burst - b.has) * 1000000000 - b.part + b.rate - 1) / b.rate ≤ (b.burst - b.has) * 1000000000 - b.part + b.rate - 1 := Int.ediv_le_self _ (by omega)
      have hq9 : ((b.burst - b.has) * 1000000000 - b.part + b.rate - 1) / b.rate < 2000000000000000000 := by omega
      clear gt
      by_cases hs : ((b.burst - b.has) * 1000000000 - b.part + b.rate - 1) / b.rate ≤ now - b.at_
      · have hM : fillM b now = { b with at_ := now, has := b.burst, part := 0 } := by rw [fillM, if_neg hle, if_neg hr0, if_pos hs]
        have HF := fun j => full_any k { b with at_ := now } ((w.setCell ⟨k, 4, none⟩ (.int .i64 now)).drewN j) hb1
        have HF2 := Lib.hid HF
        clear HF hr0
        go_enter Try.func63, Try.ntmps63
        go_wp2_with (go_at_call 60; refine HM.out.mono ?_; rintro e w' ⟨rfl, j, rfl⟩)
        go_quiet (fail)
        go_wp2_with (go_at_call 62; refine (HF2.out _).mono ?_; rintro e w' ⟨rfl, hb2, hF2⟩)
        go_end0
        exact ⟨rfl, by rw [hM]; exact hb2, (hF.drewN _).trans hF2⟩
      · have hM : fillM b now = { b with at_ := now, has := b.has + (b.part + (now - b.at_) * b.rate) / 1000000000, part := (b.part + (now - b.at_) * b.rate) % 1000000000 } := by rw [fillM, if_neg hle, if_neg hr0, if_neg hs]
        have hp0 : 0 ≤ (now - b.at_) * b.rate := Int.mul_nonneg (by omega) (by omega)
        have hp1 : (now - b.at_) * b.rate ≤ (b.burst - b.has) * 1000000000 - b.part - 1 := by
          have h1 : now - b.at_ + 1 ≤ ((b.burst - b.has) * 1000000000 - b.part + b.rate - 1) / b.rate := by omega
          have h2 := (Int.le_ediv_iff_mul_le hrp).1 h1
          rw [Int.add_mul] at h2
          omega
        have hp9 : (now - b.at_) * b.rate ≤ 1000000000000000000 := by omega
        clear hp1 hr0
        have hsb : decide (((b.burst - b.has) * 1000000000 - b.part + b.rate - 1) / b.rate ≤ now - b.at_) = false := by simpa using hs
        go_enter Try.func63, Try.ntmps63
        go_wp2_with (go_at_call 60; refine HM.out.mono ?_; rintro e w' ⟨rfl, j, rfl⟩)
        go_quiet (fail)
        go_wp2_with fail
        go_region
        go_wp2
        go_region
        go_wp2
        go_end0
        refine ⟨rfl, ?_, ?_⟩
        · rw [hM]
          exact heap_setCell (heap_setCell (heap_setCell (heap_setCell hb 4 _) 3 _) 2 _) 3 _
        · repeat (first | with_reducible exact Fr.refl _ _ | with_reducible refine Fr.drew ?_ | with_reducible refine Fr.drewN ?_ _ | with_reducible refine Fr.setCell1 ?_ _ _)

theorem fillM_ok (b : Bk) (ok : b.Ok) (now : Int) (h0 : 0 ≤ now) (h1 : now ≤ 1125899906842624) : (fillM b now).Ok := by
  unfold fillM
  split
  · exact ok
  split
  · exact { ok with at0 := h0, at1 := h1 }
  split
  · exact { ok with at0 := h0, at1 := h1, has0 := by have := ok.burst0; dsimp only; omega, has1 := Int.le_refl _, part0 := Int.le_refl _, part1 := by dsimp only; omega, top := fun _ => rfl }
  · rename_i hle hr hs
    have hr1 := ok.rate0
    have g1 := ok.has0
    have g2 := ok.has1
    have g3 := ok.part0
    have hrp : 0 < b.rate := by omega
    have hp0 : 0 ≤ (now - b.at_) * b.rate := Int.mul_nonneg (by omega) (by omega)
    have hp1 : (now - b.at_) * b.rate ≤ (b.burst - b.has) * 1000000000 - b.part - 1 := by
      have h1 : now - b.at_ + 1 ≤ ((b.burst - b.has) * 1000000000 - b.part + b.rate - 1) / b.rate := by omega
      have h2 := (Int.le_ediv_iff_mul_le hrp).1 h1
      rw [Int.add_mul] at h2
      omega
    generalize (now - b.at_) * b.rate = p at *
    refine { ok with at0 := h0, at1 := h1, has0 := ?_, has1 := ?_, part0 := ?_, part1 := ?_, top := ?_ } <;> dsimp only <;> omega

theorem fillM_keeps (b : Bk) (now : Int) : (fillM b now).rate = b.rate ∧ (fillM b now).burst = b.burst ∧ (fillM b now).tk = b.tk ∧ (fillM b now).rf = b.rf ∧ (fillM b now).cs = b.cs := by
  unfold fillM
  split
  · exact ⟨rfl, rfl, rfl, rfl, rfl⟩
  split
  · exact ⟨rfl, rfl, rfl, rfl, rfl⟩
  split <;> exact ⟨rfl, rfl, rfl, rfl, rfl⟩
end Go.Proofs.Ytoichcjlfpijeaa
