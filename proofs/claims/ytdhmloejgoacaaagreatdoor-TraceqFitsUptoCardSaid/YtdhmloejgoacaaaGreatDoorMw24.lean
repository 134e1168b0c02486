/- metricq.units, metricq.Span. -/
import Derived.Test.YtdhmloejgoacaaaGreatDoorMw21
import Derived.Test.YtdhmloejgoacaaaGreatDoorLqText
import Derived.Test.YtdhmloejgoacaaaGreatDoorMw10
set_option linter.unusedVariables false
set_option linter.unusedSimpArgs false
namespace Go.Proofs.YtdhmloejgoacaaaGreatDoor
open Go.RowKit Go.Bl Go.Lq Go.Tq

def unitCells : Array Value := #[.string ⟨#[104]⟩, .int .i64 3600000000000, .string ⟨#[109]⟩, .int .i64 60000000000, .string ⟨#[115]⟩, .int .i64 1000000000, .string ⟨#[109, 115]⟩, .int .i64 1000000, .string ⟨#[117, 115]⟩, .int .i64 1000, .string ⟨#[110, 115]⟩, .int .i64 1]
set_option maxRecDepth 100000 in
theorem units_any (w : World) : Calls Tryz.prog 113 #[] w fun e w' => e = .returned (.slice (some ⟨w.heap.size, 0, none⟩) 6 6) ∧ w' = w.alloc (.cells unitCells 153) := by
  go_enter Tryz.func113, Tryz.ntmps113
  go_wp2_with fail
  go_ret
  exact ⟨rfl, rfl⟩
theorem formatInt_any {n : Int} (h0 : 0 ≤ n) (h1 : n ≤ 9223372036854775807) {w : World} (hG : GV w) : Calls Tryz.prog 114 #[.int .i64 n, .int .i64 10] w fun e w' => e = .returned (.string ⟨(digs n.toNat).toArray⟩) ∧ Fr [] w w' :=
  (Tryz.strconv_FormatInt_10 n (by omega) (by omega) w hG.tab).mono fun e w' ⟨he, k, os, hw⟩ => by
    refine ⟨?_, ?_⟩
    · rw [he, Lib.itoa, if_neg (by omega), digs_dec]
    · rw [hw]
      exact fr_newR (Lib.below_grow _ w (Nat.le_refl _) k os) []
def SpanPost (n : Int) (w : World) (e : Ending) (w' : World) : Prop :=
  Fr [] w w' ∧ match spanP n with
    | some t => e = .returned (.tuple #[.string ⟨t.toArray⟩, .int .i64 0])
    | none => e = .returned (.tuple #[.string ⟨#[]⟩, .int .i64 1])
def SpanRel (n : Int) (H : Nat) (w : World) (v : Value) (wr : World) : Prop :=
  ∃ i : Nat, v = .int .i64 (i : Int) ∧ i ≤ 6 ∧ Fr [] w wr ∧ wr.heap[H]? = some (.cells unitCells 153 (0, 0)) ∧ spanP n = spanGo (units.drop i) n
set_option maxRecDepth 100000 in
set_option maxHeartbeats 2000000 in
theorem span_any (n : Int) (w : World) (hG : GV w) (h8 : 8 ≤ w.heap.size) : Calls Tryz.prog 94 #[.int .i64 n] w (SpanPost n w) := by
  go_enter Tryz.func94, Tryz.ntmps94
  by_cases hn : n < 1 ∨ 1125899906842624 < n
  · have hs : spanP n = none := by unfold spanP maxTime; rw [if_pos hn]
    rcases hn with hn | hn
    · have hn2 : n < 1 := hn
      go_wp2_with fail
      go_ret2
      exact ⟨Fr.refl _ _, by rw [hs]; rfl⟩
    · have hn2 : ¬ n < 1 := by omega
      have hn3 : n > 1125899906842624 := hn
      go_wp2_with fail
      go_ret2
      exact ⟨Fr.refl _ _, by rw [hs]; rfl⟩
  · have hs : spanP n = spanGo units n := by unfold spanP maxTime; rw [if_neg hn]
    have hn2 : ¬ n < 1 := by omega
    have hn3 : ¬ n > 1125899906842624 := by omega
    have hn4 : 1 ≤ n := by omega
    have hn5 : n ≤ 1125899906842624 := by omega
    clear hn
    have HS := Lib.hid hs
    clear hs
    go_wp2_with fail
    refine (units_any w).mono ?_
    rintro e w1 ⟨rfl, hw1⟩
    obtain ⟨H, hH⟩ : ∃ H, w.heap.size = H := ⟨_, rfl⟩
    rw [hH]
    have H0 : SpanRel n H w (.int .i64 0) w1 := ⟨0, rfl, by omega, by rw [hw1]; exact (Fr.refl _ _).alloc _, by rw [hw1, ← hH]; exact Go.Bl.heap_alloc _ _, HS.out⟩
    clear hw1
    go_wp2_with fail
    go_loopw [15] (fun v wr => SpanRel n H w v wr) (fun v _ => 6 - (intOf v).toNat)
    case atStart => exact H0
    case round =>
      clear H0
      obtain ⟨i, rfl, hi, hF, hT, hsp⟩ := hrel
      have HP := Lib.hid hsp
      clear hsp
      have d0 := cell_of hT 0
      have d1 := cell_of hT 1
      have d2 := cell_of hT 2
      have d3 := cell_of hT 3
      have d4 := cell_of hT 4
      have d5 := cell_of hT 5
      have d6 := cell_of hT 6
      have d7 := cell_of hT 7
      have d8 := cell_of hT 8
      have d9 := cell_of hT 9
      have d10 := cell_of hT 10
      have d11 := cell_of hT 11
      unfold unitCells at d0 d1 d2 d3 d4 d5 d6 d7 d8 d9 d10 d11
      simp only [List.getElem?_toArray, List.getElem?_cons_zero, List.getElem?_cons_succ] at d0 d1 d2 d3 d4 d5 d6 d7 d8 d9 d10 d11
      have hic : i = 0 ∨ i = 1 ∨ i = 2 ∨ i = 3 ∨ i = 4 ∨ i = 5 ∨ i = 6 := by omega
      rcases hic with rfl | rfl | rfl | rfl | rfl | rfl | rfl
      · have hstep : spanGo (units.drop 0) n = if n % 3600000000000 = 0 then (if (digs (n / 3600000000000).toNat).length ≤ 9 then some (digs (n / 3600000000000).toNat ++ [104]) else none) else spanGo (units.drop 1) n := rfl
        have hF5 : Fr [] w (wr.alloc (.cells #[.string ⟨#[104]⟩, .int .i64 3600000000000] 153)) := hF.alloc _
        have hT5 : (wr.alloc (.cells #[.string ⟨#[104]⟩, .int .i64 3600000000000] 153)).heap[H]? = some (.cells unitCells 153 (0, 0)) := Go.Bl.heap_alloc_old hT _
        by_cases hq : n % 3600000000000 = 0
        · have hq2 : ¬ n % 3600000000000 > 0 := by omega
          have hq3 : 0 ≤ n / 3600000000000 := by omega
          have hq4 : n / 3600000000000 ≤ 9223372036854775807 := by omega
          have hG5 := hG.below (hF5.below (B := w.heap.size) (Nat.le_refl _) (by simp)) h8
          have HF := Lib.hid (And.intro hF5 hT5)
          have HQ := Lib.hid hq
          have HST := Lib.hid hstep
          clear hq hF5 hT5 hstep
          go_wp2_with fail
          refine (formatInt_any (n := n / 3600000000000) hq3 hq4 hG5).mono ?_
          rintro e w6 ⟨rfl, hF6⟩
          obtain ⟨D, hD⟩ : ∃ D, digs (n / 3600000000000).toNat = D := ⟨_, rfl⟩
          obtain ⟨X, hX⟩ : ∃ X, (⟨D.toArray⟩ : ByteArray) = X := ⟨_, rfl⟩
          have hXs : X.size = D.length := by rw [← hX]; simp [ByteArray.size]
          rw [hD, hX]
          have c5 : w6.cell? ⟨wr.heap.size, 0, none⟩ = some (.string ⟨#[104]⟩) := cell_frS hF6 (by rw [cell_of (Go.Bl.heap_alloc wr (.cells #[.string ⟨#[104]⟩, .int .i64 3600000000000] 153))]; rfl) (by simp)
          have HD := Lib.hid (And.intro hD hX)
          clear hD hX
          by_cases hL : D.length ≤ 9
          · have hL2 : (X.size : Int) ≤ 9 := by omega
            have hr : spanP n = some (D ++ [104]) := by rw [HP.out, HST.out, if_pos HQ.out, HD.out.1, if_pos hL]
            have HR := Lib.hid hr
            clear hr hL
            go_wp2_with fail
            go_ret2
            refine ⟨HF.out.1.trans hF6, ?_⟩
            rw [HR.out, ← HD.out.2]
            exact ret_val (congrArg (fun x => Value.tuple #[.string x, .int .i64 0]) (by apply bs_ext; simp))
          · have hL2 : ¬ (X.size : Int) ≤ 9 := by omega
            have hr : spanP n = none := by rw [HP.out, HST.out, if_pos HQ.out, HD.out.1, if_neg hL]
            have HR := Lib.hid hr
            clear hr hL
            go_wp2_with fail
            go_ret2
            refine ⟨HF.out.1.trans hF6, ?_⟩
            rw [HR.out]
            rfl
        · have hq2 : n % 3600000000000 > 0 := by omega
          have hr : spanP n = spanGo (units.drop 1) n := by rw [HP.out, hstep, if_neg hq]
          have HR := Lib.hid hr
          have HF := Lib.hid (And.intro hF5 hT5)
          clear hr hstep hq hF5 hT5
          go_wp2_with fail
          exact ⟨⟨1, rfl, by omega, HF.out.1, HF.out.2, HR.out⟩, by simp [intOf]⟩
      · have hstep : spanGo (units.drop 1) n = if n % 60000000000 = 0 then (if (digs (n / 60000000000).toNat).length ≤ 9 then some (digs (n / 60000000000).toNat ++ [109]) else none) else spanGo (units.drop 2) n := rfl
        have hF5 : Fr [] w (wr.alloc (.cells #[.string ⟨#[109]⟩, .int .i64 60000000000] 153)) := hF.alloc _
        have hT5 : (wr.alloc (.cells #[.string ⟨#[109]⟩, .int .i64 60000000000] 153)).heap[H]? = some (.cells unitCells 153 (0, 0)) := Go.Bl.heap_alloc_old hT _
        by_cases hq : n % 60000000000 = 0
        · have hq2 : ¬ n % 60000000000 > 0 := by omega
          have hq3 : 0 ≤ n / 60000000000 := by omega
          have hq4 : n / 60000000000 ≤ 9223372036854775807 := by omega
          have hG5 := hG.below (hF5.below (B := w.heap.size) (Nat.le_refl _) (by simp)) h8
          have HF := Lib.hid (And.intro hF5 hT5)
          have HQ := Lib.hid hq
          have HST := Lib.hid hstep
          clear hq hF5 hT5 hstep
          go_wp2_with fail
          refine (formatInt_any (n := n / 60000000000) hq3 hq4 hG5).mono ?_
          rintro e w6 ⟨rfl, hF6⟩
          obtain ⟨D, hD⟩ : ∃ D, digs (n / 60000000000).toNat = D := ⟨_, rfl⟩
          obtain ⟨X, hX⟩ : ∃ X, (⟨D.toArray⟩ : ByteArray) = X := ⟨_, rfl⟩
          have hXs : X.size = D.length := by rw [← hX]; simp [ByteArray.size]
          rw [hD, hX]
          have c5 : w6.cell? ⟨wr.heap.size, 0, none⟩ = some (.string ⟨#[109]⟩) := cell_frS hF6 (by rw [cell_of (Go.Bl.heap_alloc wr (.cells #[.string ⟨#[109]⟩, .int .i64 60000000000] 153))]; rfl) (by simp)
          have HD := Lib.hid (And.intro hD hX)
          clear hD hX
          by_cases hL : D.length ≤ 9
          · have hL2 : (X.size : Int) ≤ 9 := by omega
            have hr : spanP n = some (D ++ [109]) := by rw [HP.out, HST.out, if_pos HQ.out, HD.out.1, if_pos hL]
            have HR := Lib.hid hr
            clear hr hL
            go_wp2_with fail
            go_ret2
            refine ⟨HF.out.1.trans hF6, ?_⟩
            rw [HR.out, ← HD.out.2]
            exact ret_val (congrArg (fun x => Value.tuple #[.string x, .int .i64 0]) (by apply bs_ext; simp))
          · have hL2 : ¬ (X.size : Int) ≤ 9 := by omega
            have hr : spanP n = none := by rw [HP.out, HST.out, if_pos HQ.out, HD.out.1, if_neg hL]
            have HR := Lib.hid hr
            clear hr hL
            go_wp2_with fail
            go_ret2
            refine ⟨HF.out.1.trans hF6, ?_⟩
            rw [HR.out]
            rfl
        · have hq2 : n % 60000000000 > 0 := by omega
          have hr : spanP n = spanGo (units.drop 2) n := by rw [HP.out, hstep, if_neg hq]
          have HR := Lib.hid hr
          have HF := Lib.hid (And.intro hF5 hT5)
          clear hr hstep hq hF5 hT5
          go_wp2_with fail
          exact ⟨⟨2, rfl, by omega, HF.out.1, HF.out.2, HR.out⟩, by simp [intOf]⟩
      · have hstep : spanGo (units.drop 2) n = if n % 1000000000 = 0 then (if (digs (n / 1000000000).toNat).length ≤ 9 then some (digs (n / 1000000000).toNat ++ [115]) else none) else spanGo (units.drop 3) n := rfl
        have hF5 : Fr [] w (wr.alloc (.cells #[.string ⟨#[115]⟩, .int .i64 1000000000] 153)) := hF.alloc _
        have hT5 : (wr.alloc (.cells #[.string ⟨#[115]⟩, .int .i64 1000000000] 153)).heap[H]? = some (.cells unitCells 153 (0, 0)) := Go.Bl.heap_alloc_old hT _
        by_cases hq : n % 1000000000 = 0
        · have hq2 : ¬ n % 1000000000 > 0 := by omega
          have hq3 : 0 ≤ n / 1000000000 := by omega
          have hq4 : n / 1000000000 ≤ 9223372036854775807 := by omega
          have hG5 := hG.below (hF5.below (B := w.heap.size) (Nat.le_refl _) (by simp)) h8
          have HF := Lib.hid (And.intro hF5 hT5)
          have HQ := Lib.hid hq
          have HST := Lib.hid hstep
          clear hq hF5 hT5 hstep
          go_wp2_with fail
          refine (formatInt_any (n := n / 1000000000) hq3 hq4 hG5).mono ?_
          rintro e w6 ⟨rfl, hF6⟩
          obtain ⟨D, hD⟩ : ∃ D, digs (n / 1000000000).toNat = D := ⟨_, rfl⟩
          obtain ⟨X, hX⟩ : ∃ X, (⟨D.toArray⟩ : ByteArray) = X := ⟨_, rfl⟩
          have hXs : X.size = D.length := by rw [← hX]; simp [ByteArray.size]
          rw [hD, hX]
          have c5 : w6.cell? ⟨wr.heap.size, 0, none⟩ = some (.string ⟨#[115]⟩) := cell_frS hF6 (by rw [cell_of (Go.Bl.heap_alloc wr (.cells #[.string ⟨#[115]⟩, .int .i64 1000000000] 153))]; rfl) (by simp)
          have HD := Lib.hid (And.intro hD hX)
          clear hD hX
          by_cases hL : D.length ≤ 9
          · have hL2 : (X.size : Int) ≤ 9 := by omega
            have hr : spanP n = some (D ++ [115]) := by rw [HP.out, HST.out, if_pos HQ.out, HD.out.1, if_pos hL]
            have HR := Lib.hid hr
            clear hr hL
            go_wp2_with fail
            go_ret2
            refine ⟨HF.out.1.trans hF6, ?_⟩
            rw [HR.out, ← HD.out.2]
            exact ret_val (congrArg (fun x => Value.tuple #[.string x, .int .i64 0]) (by apply bs_ext; simp))
          · have hL2 : ¬ (X.size : Int) ≤ 9 := by omega
            have hr : spanP n = none := by rw [HP.out, HST.out, if_pos HQ.out, HD.out.1, if_neg hL]
            have HR := Lib.hid hr
            clear hr hL
            go_wp2_with fail
            go_ret2
            refine ⟨HF.out.1.trans hF6, ?_⟩
            rw [HR.out]
            rfl
        · have hq2 : n % 1000000000 > 0 := by omega
          have hr : spanP n = spanGo (units.drop 3) n := by rw [HP.out, hstep, if_neg hq]
          have HR := Lib.hid hr
          have HF := Lib.hid (And.intro hF5 hT5)
          clear hr hstep hq hF5 hT5
          go_wp2_with fail
          exact ⟨⟨3, rfl, by omega, HF.out.1, HF.out.2, HR.out⟩, by simp [intOf]⟩
      · have hstep : spanGo (units.drop 3) n = if n % 1000000 = 0 then (if (digs (n / 1000000).toNat).length ≤ 9 then some (digs (n / 1000000).toNat ++ [109, 115]) else none) else spanGo (units.drop 4) n := rfl
        have hF5 : Fr [] w (wr.alloc (.cells #[.string ⟨#[109, 115]⟩, .int .i64 1000000] 153)) := hF.alloc _
        have hT5 : (wr.alloc (.cells #[.string ⟨#[109, 115]⟩, .int .i64 1000000] 153)).heap[H]? = some (.cells unitCells 153 (0, 0)) := Go.Bl.heap_alloc_old hT _
        by_cases hq : n % 1000000 = 0
        · have hq2 : ¬ n % 1000000 > 0 := by omega
          have hq3 : 0 ≤ n / 1000000 := by omega
          have hq4 : n / 1000000 ≤ 9223372036854775807 := by omega
          have hG5 := hG.below (hF5.below (B := w.heap.size) (Nat.le_refl _) (by simp)) h8
          have HF := Lib.hid (And.intro hF5 hT5)
          have HQ := Lib.hid hq
          have HST := Lib.hid hstep
          clear hq hF5 hT5 hstep
          go_wp2_with fail
          refine (formatInt_any (n := n / 1000000) hq3 hq4 hG5).mono ?_
          rintro e w6 ⟨rfl, hF6⟩
          obtain ⟨D, hD⟩ : ∃ D, digs (n / 1000000).toNat = D := ⟨_, rfl⟩
          obtain ⟨X, hX⟩ : ∃ X, (⟨D.toArray⟩ : ByteArray) = X := ⟨_, rfl⟩
          have hXs : X.size = D.length := by rw [← hX]; simp [ByteArray.size]
          rw [hD, hX]
          have c5 : w6.cell? ⟨wr.heap.size, 0, none⟩ = some (.string ⟨#[109, 115]⟩) := cell_frS hF6 (by rw [cell_of (Go.Bl.heap_alloc wr (.cells #[.string ⟨#[109, 115]⟩, .int .i64 1000000] 153))]; rfl) (by simp)
          have HD := Lib.hid (And.intro hD hX)
          clear hD hX
          by_cases hL : D.length ≤ 9
          · have hL2 : (X.size : Int) ≤ 9 := by omega
            have hr : spanP n = some (D ++ [109, 115]) := by rw [HP.out, HST.out, if_pos HQ.out, HD.out.1, if_pos hL]
            have HR := Lib.hid hr
            clear hr hL
            go_wp2_with fail
            go_ret2
            refine ⟨HF.out.1.trans hF6, ?_⟩
            rw [HR.out, ← HD.out.2]
            exact ret_val (congrArg (fun x => Value.tuple #[.string x, .int .i64 0]) (by apply bs_ext; simp))
          · have hL2 : ¬ (X.size : Int) ≤ 9 := by omega
            have hr : spanP n = none := by rw [HP.out, HST.out, if_pos HQ.out, HD.out.1, if_neg hL]
            have HR := Lib.hid hr
            clear hr hL
            go_wp2_with fail
            go_ret2
            refine ⟨HF.out.1.trans hF6, ?_⟩
            rw [HR.out]
            rfl
        · have hq2 : n % 1000000 > 0 := by omega
          have hr : spanP n = spanGo (units.drop 4) n := by rw [HP.out, hstep, if_neg hq]
          have HR := Lib.hid hr
          have HF := Lib.hid (And.intro hF5 hT5)
          clear hr hstep hq hF5 hT5
          go_wp2_with fail
          exact ⟨⟨4, rfl, by omega, HF.out.1, HF.out.2, HR.out⟩, by simp [intOf]⟩
      · have hstep : spanGo (units.drop 4) n = if n % 1000 = 0 then (if (digs (n / 1000).toNat).length ≤ 9 then some (digs (n / 1000).toNat ++ [117, 115]) else none) else spanGo (units.drop 5) n := rfl
        have hF5 : Fr [] w (wr.alloc (.cells #[.string ⟨#[117, 115]⟩, .int .i64 1000] 153)) := hF.alloc _
        have hT5 : (wr.alloc (.cells #[.string ⟨#[117, 115]⟩, .int .i64 1000] 153)).heap[H]? = some (.cells unitCells 153 (0, 0)) := Go.Bl.heap_alloc_old hT _
        by_cases hq : n % 1000 = 0
        · have hq2 : ¬ n % 1000 > 0 := by omega
          have hq3 : 0 ≤ n / 1000 := by omega
          have hq4 : n / 1000 ≤ 9223372036854775807 := by omega
          have hG5 := hG.below (hF5.below (B := w.heap.size) (Nat.le_refl _) (by simp)) h8
          have HF := Lib.hid (And.intro hF5 hT5)
          have HQ := Lib.hid hq
          have HST := Lib.hid hstep
          clear hq hF5 hT5 hstep
          go_wp2_with fail
          refine (formatInt_any (n := n / 1000) hq3 hq4 hG5).mono ?_
          rintro e w6 ⟨rfl, hF6⟩
          obtain ⟨D, hD⟩ : ∃ D, digs (n / 1000).toNat = D := ⟨_, rfl⟩
          obtain ⟨X, hX⟩ : ∃ X, (⟨D.toArray⟩ : ByteArray) = X := ⟨_, rfl⟩
          have hXs : X.size = D.length := by rw [← hX]; simp [ByteArray.size]
          rw [hD, hX]
          have c5 : w6.cell? ⟨wr.heap.size, 0, none⟩ = some (.string ⟨#[117, 115]⟩) := cell_frS hF6 (by rw [cell_of (Go.Bl.heap_alloc wr (.cells #[.string ⟨#[117, 115]⟩, .int .i64 1000] 153))]; rfl) (by simp)
          have HD := Lib.hid (And.intro hD hX)
          clear hD hX
          by_cases hL : D.length ≤ 9
          · have hL2 : (X.size : Int) ≤ 9 := by omega
            have hr : spanP n = some (D ++ [117, 115]) := by rw [HP.out, HST.out, if_pos HQ.out, HD.out.1, if_pos hL]
            have HR := Lib.hid hr
            clear hr hL
            go_wp2_with fail
            go_ret2
            refine ⟨HF.out.1.trans hF6, ?_⟩
            rw [HR.out, ← HD.out.2]
            exact ret_val (congrArg (fun x => Value.tuple #[.string x, .int .i64 0]) (by apply bs_ext; simp))
          · have hL2 : ¬ (X.size : Int) ≤ 9 := by omega
            have hr : spanP n = none := by rw [HP.out, HST.out, if_pos HQ.out, HD.out.1, if_neg hL]
            have HR := Lib.hid hr
            clear hr hL
            go_wp2_with fail
            go_ret2
            refine ⟨HF.out.1.trans hF6, ?_⟩
            rw [HR.out]
            rfl
        · have hq2 : n % 1000 > 0 := by omega
          have hr : spanP n = spanGo (units.drop 5) n := by rw [HP.out, hstep, if_neg hq]
          have HR := Lib.hid hr
          have HF := Lib.hid (And.intro hF5 hT5)
          clear hr hstep hq hF5 hT5
          go_wp2_with fail
          exact ⟨⟨5, rfl, by omega, HF.out.1, HF.out.2, HR.out⟩, by simp [intOf]⟩
      · have hstep : spanGo (units.drop 5) n = if (digs n.toNat).length ≤ 9 then some (digs n.toNat ++ [110, 115]) else none := by
          show (if n % 1 = 0 then (if (digs (n / 1).toNat).length ≤ 9 then some (digs (n / 1).toNat ++ [110, 115]) else none) else _) = _
          rw [if_pos (by omega), Int.ediv_one]
        have hF5 : Fr [] w (wr.alloc (.cells #[.string ⟨#[110, 115]⟩, .int .i64 1] 153)) := hF.alloc _
        have hT5 : (wr.alloc (.cells #[.string ⟨#[110, 115]⟩, .int .i64 1] 153)).heap[H]? = some (.cells unitCells 153 (0, 0)) := Go.Bl.heap_alloc_old hT _
        · have hq3 : 0 ≤ n := by omega
          have hq4 : n ≤ 9223372036854775807 := by omega
          have hG5 := hG.below (hF5.below (B := w.heap.size) (Nat.le_refl _) (by simp)) h8
          have HF := Lib.hid (And.intro hF5 hT5)
          have HST := Lib.hid hstep
          clear hF5 hT5 hstep
          go_wp2_with fail
          refine (formatInt_any (n := n) hq3 hq4 hG5).mono ?_
          rintro e w6 ⟨rfl, hF6⟩
          obtain ⟨D, hD⟩ : ∃ D, digs n.toNat = D := ⟨_, rfl⟩
          obtain ⟨X, hX⟩ : ∃ X, (⟨D.toArray⟩ : ByteArray) = X := ⟨_, rfl⟩
          have hXs : X.size = D.length := by rw [← hX]; simp [ByteArray.size]
          rw [hD, hX]
          have c5 : w6.cell? ⟨wr.heap.size, 0, none⟩ = some (.string ⟨#[110, 115]⟩) := cell_frS hF6 (by rw [cell_of (Go.Bl.heap_alloc wr (.cells #[.string ⟨#[110, 115]⟩, .int .i64 1] 153))]; rfl) (by simp)
          have HD := Lib.hid (And.intro hD hX)
          clear hD hX
          by_cases hL : D.length ≤ 9
          · have hL2 : (X.size : Int) ≤ 9 := by omega
            have hr : spanP n = some (D ++ [110, 115]) := by rw [HP.out, HST.out, HD.out.1, if_pos hL]
            have HR := Lib.hid hr
            clear hr hL
            go_wp2_with fail
            go_ret2
            refine ⟨HF.out.1.trans hF6, ?_⟩
            rw [HR.out, ← HD.out.2]
            exact ret_val (congrArg (fun x => Value.tuple #[.string x, .int .i64 0]) (by apply bs_ext; simp))
          · have hL2 : ¬ (X.size : Int) ≤ 9 := by omega
            have hr : spanP n = none := by rw [HP.out, HST.out, HD.out.1, if_neg hL]
            have HR := Lib.hid hr
            clear hr hL
            go_wp2_with fail
            go_ret2
            refine ⟨HF.out.1.trans hF6, ?_⟩
            rw [HR.out]
            rfl
      · have hr : spanP n = none := HP.out
        have HR := Lib.hid hr
        clear hr
        go_wp2_with fail
        go_ret2
        refine ⟨hF, ?_⟩
        rw [HR.out]
        rfl
end Go.Proofs.YtdhmloejgoacaaaGreatDoor
namespace Go.Proofs.YtdhmloejgoacaaaGreatDoor
open Go.RowKit Go.Bl Go.Lq

set_option maxRecDepth 100000 in
set_option maxHeartbeats 800000 in
theorem wrongT_any (m : Mt) (w : World) (hG : GV w) (h8 : 8 ≤ w.heap.size) :
    Calls Tryz.prog 51 #[.agg #[.int .i64 m.op, .string ⟨m.key.toArray⟩, .string ⟨m.val.toArray⟩]] w fun e w' => e = .returned (.int .i64 (wrongT Lib.validD m)) ∧ Fr [] w w' := by
  obtain ⟨op, ho0⟩ : ∃ op, m.op = op := ⟨_, rfl⟩
  obtain ⟨K, hK⟩ : ∃ K : ByteArray, ⟨m.key.toArray⟩ = K := ⟨_, rfl⟩
  obtain ⟨V, hV⟩ : ∃ V : ByteArray, ⟨m.val.toArray⟩ = V := ⟨_, rfl⟩
  have hKe := empty_iff K
  have hKl : K.data.toList = m.key := by rw [← hK]
  have hVl : V.data.toList = m.val := by rw [← hV]
  rw [hKl] at hKe
  rw [hK, hV, ho0]
  have hF1 : Fr [] w (w.alloc (.cells #[.int .i64 op, .string K, .string V] 74)) := (Fr.refl _ _).alloc _
  have hF2 := hF1.alloc (.cells #[.int .i64 op, .string K, .string V] 74)
  have hG1 := hG.below (B := 8) (hF1.below h8 (by simp)) (by omega)
  have hG2 := hG.below (B := 8) (hF2.below h8 (by simp)) (by omega)
  by_cases hk : m.key = []
  · rw [decide_eq_true hk] at hKe
    by_cases ho : op ≠ 3 ∧ op ≠ 4
    · have hr : wrongT Lib.validD m = 42 := by unfold wrongT; rw [if_neg (by simp [hk]), ho0, if_pos ho]
      rw [hr]
      have q1 : (op == 3) = false := by simpa using ho.1
      have q2 : (op == 4) = false := by simpa using ho.2
      have q3 : (op != 3) = true := by simpa using ho.1
      have q4 : (op != 4) = true := by simpa using ho.2
      have q5 : ¬ op = 3 := ho.1
      have q6 : ¬ op = 4 := ho.2
      have HF := Lib.hid hF1
      clear hr ho ho0 hk hK hV hKl hVl hF1 hF2
      go_enter Tryz.func51, Tryz.ntmps51
      go_wp2
      go_ret
      exact ⟨rfl, HF.out⟩
    · have hv := value_any V _ hG1
      rw [hVl] at hv
      have hr : wrongT Lib.validD m = if !valueP Lib.validD m.val then 41 else 0 := by unfold wrongT; rw [if_neg (by simp [hk]), ho0, if_neg ho]
      rw [hr]
      obtain ⟨b, hb⟩ : ∃ b, valueP Lib.validD m.val = b := ⟨_, rfl⟩
      rw [hb] at hv ⊢
      have HF := Lib.hid hF1
      have ho2 : op = 3 ∨ op = 4 := by omega
      clear hr hb ho0 hk hK hV hKl hVl hF1 hF2 ho
      rcases ho2 with rfl | rfl
      · skip
        clear hG1 hG2
        go_enter Tryz.func51, Tryz.ntmps51
        go_wp2_with fail
        refine hv.mono ?_
        rintro e w' ⟨rfl, hF⟩
        cases b
        · go_wp2
          go_ret
          exact ⟨rfl, HF.out.trans hF⟩
        · go_wp2
          go_ret
          exact ⟨rfl, HF.out.trans hF⟩
      · skip
        clear hG1 hG2
        go_enter Tryz.func51, Tryz.ntmps51
        go_wp2_with fail
        refine hv.mono ?_
        rintro e w' ⟨rfl, hF⟩
        cases b
        · go_wp2
          go_ret
          exact ⟨rfl, HF.out.trans hF⟩
        · go_wp2
          go_ret
          exact ⟨rfl, HF.out.trans hF⟩
  · rw [decide_eq_false hk] at hKe
    have hB := heap_alloc (w.alloc (.cells #[.int .i64 op, .string K, .string V] 74)) (.cells #[.int .i64 op, .string K, .string V] 74)
    rw [size_alloc'] at hB
    have hrm := rightMatch_any [m] (.slice (some ⟨w.heap.size + 1, 0, none⟩) 1 1) _ hG2 (by have := hF2.size; omega) ⟨_, _, rfl, by simp, fun i hi => ⟨_, rfl, by
      obtain rfl : i = 0 := by simpa using hi
      refine ⟨?_, ?_, ?_⟩
      · rw [add_at', cell_of hB, ← ho0]; rfl
      · rw [add_at', cell_of hB, ← hK]; rfl
      · rw [add_at', cell_of hB, ← hV]; rfl⟩⟩
    have hr : wrongT Lib.validD m = rightM Lib.validD [m] := by unfold wrongT; rw [if_pos hk]
    rw [hr]
    obtain ⟨ans, hans⟩ : ∃ ans, rightM Lib.validD [m] = ans := ⟨_, rfl⟩
    rw [hans] at hrm ⊢
    have HF := Lib.hid hF2
    clear hr ho0 hk hK hV hKl hVl hF1 hF2 hB hans
    go_enter Tryz.func51, Tryz.ntmps51
    go_wp2_with fail
    refine hrm.mono ?_
    rintro e w' ⟨rfl, hF⟩
    go_wp2
    go_ret
    exact ⟨rfl, HF.out.trans hF⟩

def WTRel (w : World) (l : List Mt) (iv : Value) (wr : World) : Prop :=
  ∃ k, iv = .int .i64 ((k : Nat) : Int) ∧ k ≤ l.length ∧ Fr [] w wr ∧ wrongTs Lib.validD l = wrongTs Lib.validD (l.drop k)
/-- What can be has short texts. -/
theorem rightM_short {V : Bs → Bool} {l : List Mt} (h : rightM V l = 0) : Short l := by
  unfold rightM at h
  split at h
  · cases h
  · rename_i h8
    refine ⟨by omega, ?_⟩
    clear h8
    induction l with
    | nil => intro m hm; cases hm
    | cons x xs ih =>
      rw [wrongM_cons] at h
      split at h
      · cases h
      · split at h
        · cases h
        · split at h
          · cases h
          · rename_i _ hk hp
            intro m hm
            rcases List.mem_cons.1 hm with rfl | hm
            · have h1 : keyP m.key = true := by simpa using hk
              have h2 : plainP V m.val = true := by simpa using hp
              constructor
              · unfold keyP at h1
                split at h1
                · cases h1
                · simp only [Bool.and_eq_true, decide_eq_true_eq] at h1
                  omega
              · unfold plainP at h2
                simp only [Bool.and_eq_true, decide_eq_true_eq] at h2
                omega
            · exact ih h m hm
theorem wrongTs_ok {V : Bs → Bool} {l : List Mt} (h : wrongTs V l = 0) : (∀ m ∈ l, m.key.length ≤ 1024 ∧ m.val.length ≤ 1024) ∧ ∀ m ∈ l, m.key = [] → m.op = 3 ∨ m.op = 4 := by
  induction l with
  | nil => exact ⟨(fun m hm => by cases hm), (fun m hm => by cases hm)⟩
  | cons x xs ih =>
    unfold wrongTs at h
    split at h
    · rename_i h1
      exact absurd h h1
    · rename_i h1
      have h1 : wrongT V x = 0 := by simpa using h1
      obtain ⟨i1, i2⟩ := ih h
      unfold wrongT at h1
      split at h1
      · rename_i hk
        have hs := rightM_short h1
        exact ⟨fun m hm => by
          rcases List.mem_cons.1 hm with rfl | hm
          · exact hs.2 m (by simp)
          · exact i1 m hm, fun m hm he => by
          rcases List.mem_cons.1 hm with rfl | hm
          · exact absurd he hk
          · exact i2 m hm he⟩
      · rename_i hk
        have hk : x.key = [] := by simpa using hk
        split at h1
        · cases h1
        · rename_i ho
          split at h1
          · cases h1
          · rename_i hv
            have hv : valueP V x.val = true := by simpa using hv
            unfold valueP plainP at hv
            simp only [Bool.and_eq_true, decide_eq_true_eq] at hv
            exact ⟨fun m hm => by
              rcases List.mem_cons.1 hm with rfl | hm
              · exact ⟨by rw [hk]; simp, by omega⟩
              · exact i1 m hm, fun m hm he => by
              rcases List.mem_cons.1 hm with rfl | hm
              · omega
              · exact i2 m hm he⟩
end Go.Proofs.YtdhmloejgoacaaaGreatDoor
namespace Go.Proofs.YtdhmloejgoacaaaGreatDoor
open Go.RowKit Go.Bl Go.Lq Go.Tq

/-- A test by value. -/
def StV (w : World) (v : Value) (t : St) : Prop := ∃ m, v = .agg #[.string ⟨t.name.toArray⟩, .int .i64 t.least, m] ∧ Mts w m t.mat
/-- A query by value. -/
def TqV (w : World) (v : Value) (q : Tq) : Prop := ∃ m1 m2, v = .agg #[.string ⟨q.first.name.toArray⟩, .int .i64 q.first.least, m1, .string ⟨q.second.name.toArray⟩, .int .i64 q.second.least, m2, .int .i64 q.has, .int .i64 q.limit] ∧ Mts w m1 q.first.mat ∧ Mts w m2 q.second.mat
theorem StV.fr {w w' : World} {v : Value} {t : St} (h : StV w v t) (hF : Fr [] w w') : StV w' v t := by
  obtain ⟨m, e, hm⟩ := h
  exact ⟨m, e, hm.fr hF⟩
theorem TqV.fr {w w' : World} {v : Value} {q : Tq} (h : TqV w v q) (hF : Fr [] w w') : TqV w' v q := by
  obtain ⟨a, b, e, h1, h2⟩ := h
  exact ⟨a, b, e, h1.fr hF, h2.fr hF⟩
theorem GV.frn {w w' : World} (h : GV w) (hF : Fr [] w w') (h8 : 8 ≤ w.heap.size) : GV w' := h.below (hF.below (B := w.heap.size) (Nat.le_refl _) (by simp)) h8
set_option maxRecDepth 100000 in
set_option maxHeartbeats 1600000 in
theorem wrongS_any (t : St) (v : Value) (w : World) (hG : GV w) (h8 : 8 ≤ w.heap.size) (hM : Mts w v t.mat) :
    Calls Tryz.prog 68 #[.agg #[.string ⟨t.name.toArray⟩, .int .i64 t.least, v]] w fun e w' => e = .returned (.int .i64 (wrongS Lib.validD t)) ∧ Fr [] w w' := by
  obtain ⟨n, hn⟩ : ∃ n, t.least = n := ⟨_, rfl⟩
  obtain ⟨K, hK⟩ : ∃ K : ByteArray, ⟨t.name.toArray⟩ = K := ⟨_, rfl⟩
  have hKe := empty_iff K
  have hKl : K.data.toList = t.name := by rw [← hK]
  rw [hKl] at hKe
  rw [hK, hn]
  have hF1 : Fr [] w (w.alloc (.cells #[.string K, .int .i64 n, v] 45)) := (Fr.refl _ _).alloc _
  have hC1 := Go.Bl.heap_alloc w (.cells #[.string K, .int .i64 n, v] 45)
  have hG1 := hG.frn hF1 h8
  have h81 := Nat.le_trans h8 hF1.size
  have hM1 := hM.fr hF1
  obtain ⟨H, hH⟩ : ∃ H, w.heap.size = H := ⟨_, rfl⟩
  have hv := value_any K _ hG1
  rw [hKl] at hv
  obtain ⟨r, hr⟩ : ∃ r, wrongS Lib.validD t = r := ⟨_, rfl⟩
  rw [hr]
  unfold wrongS at hr
  rw [hn] at hr
  have HR := Lib.hid hr
  clear hr hK hKl hn
  rw [hH] at hC1
  go_enter Tryz.func68, Tryz.ntmps68
  go_upto_region 1 with fail
  obtain ⟨w1, hw1⟩ : ∃ w1, w.alloc (.cells #[.string K, .int .i64 n, v] 45) = w1 := ⟨_, rfl⟩
  rw [hw1] at hF1 hC1 hG1 h81 hM1 hv ⊢
  clear hw1 hM hG
  have c0 := cell_of hC1 0
  have c1 := cell_of hC1 1
  have c2 := cell_of hC1 2
  simp only [List.getElem?_toArray, List.getElem?_cons_zero, List.getElem?_cons_succ] at c0 c1 c2
  by_cases hk : t.name = []
  · rw [decide_eq_true hk] at hKe
    have HK := Lib.hid hk
    clear hk
    go_wp2_with fail
    have hF2 : Fr [] w1 w1 := Fr.refl _ _
    have hG2 := hG1.frn hF2 h81
    have h82 := Nat.le_trans h81 hF2.size
    have hM2 := hM1.fr hF2
    have e1 := cell_frS hF2 c1 (by simp)
    have e2 := cell_frS hF2 c2 (by simp)
    refine (span_any n _ hG2 h82).mono ?_
    rintro e w3 ⟨hF3, hs⟩
    have f1 := cell_frS hF3 e1 (by simp)
    have f2 := cell_frS hF3 e2 (by simp)
    have hM3 := Lib.hid (hM2.fr hF3)
    have hG3 := hG2.frn hF3 h82
    have h83 := Nat.le_trans h82 hF3.size
    have hF13 := Lib.hid ((hF1.trans hF2).trans hF3)
    have hM2' := Lib.hid hM2
    clear hM2 e1 e2 c0 c1 c2 hF3
    obtain ⟨sp, hsp⟩ : ∃ sp, spanP n = sp := ⟨_, rfl⟩
    rw [hsp] at hs
    have HS := Lib.hid hsp
    clear hsp
    cases sp with
    | none =>
      obtain rfl := hs
      by_cases hn0 : n = 0
      · have hn1 : (n != 0) = false := by simp [hn0]
        have hr : rightM Lib.validD t.mat = r := by rw [← HR.out, if_neg (by simp [HK.out]), if_neg (by simp [hn0])]
        have HN := Lib.hid hn0
        clear hn0
        go_wp2_with fail
        refine (rightMatch_any t.mat v _ hG3 h83 hM3.out).mono ?_
        rintro e w4 ⟨rfl, hF4⟩
        go_wp2_with fail
        go_ret
        exact ⟨by rw [← hr]; rfl, hF13.out.trans hF4⟩
      · have hn1 : (n != 0) = true := by simp [hn0]
        have hr : (1 : Int) = r := by rw [← HR.out, if_neg (by simp [HK.out]), if_pos ⟨hn0, HS.out⟩]
        go_wp2_with fail
        go_ret
        exact ⟨by rw [← hr]; rfl, hF13.out⟩
    | some x =>
      obtain rfl := hs
      have hr : rightM Lib.validD t.mat = r := by rw [← HR.out, if_neg (by simp [HK.out]), if_neg (by rw [HS.out]; simp)]
      by_cases hn0 : n = 0
      · have hn1 : (n != 0) = false := by simp [hn0]
        have HN := Lib.hid hn0
        clear hn0
        go_wp2_with fail
        refine (rightMatch_any t.mat v _ hG3 h83 hM3.out).mono ?_
        rintro e w4 ⟨rfl, hF4⟩
        go_wp2_with fail
        go_ret
        exact ⟨by rw [← hr]; rfl, hF13.out.trans hF4⟩
      · have hn1 : (n != 0) = true := by simp [hn0]
        go_wp2_with fail
        refine (rightMatch_any t.mat v _ hG3 h83 hM3.out).mono ?_
        rintro e w4 ⟨rfl, hF4⟩
        go_wp2_with fail
        go_ret
        exact ⟨by rw [← hr]; rfl, hF13.out.trans hF4⟩
  · rw [decide_eq_false hk] at hKe
    have HK := Lib.hid hk
    clear hk
    go_wp2_with fail
    refine hv.mono ?_
    rintro e w2 ⟨rfl, hF2⟩
    obtain ⟨bb, hbb⟩ : ∃ bb, valueP Lib.validD t.name = bb := ⟨_, rfl⟩
    rw [hbb] at HR ⊢
    cases bb
    · have hr : (41 : Int) = r := by rw [← HR.out, if_pos ⟨HK.out, rfl⟩]
      go_wp2_with fail
      go_ret
      exact ⟨by rw [← hr]; rfl, hF1.trans hF2⟩
    · have c1' := cell_frS hF2 c1 (by simp)
      go_wp2_with fail
      have hG2 := hG1.frn hF2 h81
      have h82 := Nat.le_trans h81 hF2.size
      have hM2 := hM1.fr hF2
      have e1 := cell_frS hF2 c1 (by simp)
      have e2 := cell_frS hF2 c2 (by simp)
      refine (span_any n _ hG2 h82).mono ?_
      rintro e w3 ⟨hF3, hs⟩
      have f1 := cell_frS hF3 e1 (by simp)
      have f2 := cell_frS hF3 e2 (by simp)
      have hM3 := Lib.hid (hM2.fr hF3)
      have hG3 := hG2.frn hF3 h82
      have h83 := Nat.le_trans h82 hF3.size
      have hF13 := Lib.hid ((hF1.trans hF2).trans hF3)
      have hM2' := Lib.hid hM2
      clear hM2 e1 e2 c0 c1 c2 hF3
      obtain ⟨sp, hsp⟩ : ∃ sp, spanP n = sp := ⟨_, rfl⟩
      rw [hsp] at hs
      have HS := Lib.hid hsp
      clear hsp
      cases sp with
      | none =>
        obtain rfl := hs
        by_cases hn0 : n = 0
        · have hn1 : (n != 0) = false := by simp [hn0]
          have hr : rightM Lib.validD t.mat = r := by rw [← HR.out, if_neg (by simp), if_neg (by simp [hn0])]
          have HN := Lib.hid hn0
          clear hn0
          go_wp2_with fail
          refine (rightMatch_any t.mat v _ hG3 h83 hM3.out).mono ?_
          rintro e w4 ⟨rfl, hF4⟩
          go_wp2_with fail
          go_ret
          exact ⟨by rw [← hr]; rfl, hF13.out.trans hF4⟩
        · have hn1 : (n != 0) = true := by simp [hn0]
          have hr : (1 : Int) = r := by rw [← HR.out, if_neg (by simp), if_pos ⟨hn0, HS.out⟩]
          go_wp2_with fail
          go_ret
          exact ⟨by rw [← hr]; rfl, hF13.out⟩
      | some x =>
        obtain rfl := hs
        have hr : rightM Lib.validD t.mat = r := by rw [← HR.out, if_neg (by simp), if_neg (by rw [HS.out]; simp)]
        by_cases hn0 : n = 0
        · have hn1 : (n != 0) = false := by simp [hn0]
          have HN := Lib.hid hn0
          clear hn0
          go_wp2_with fail
          refine (rightMatch_any t.mat v _ hG3 h83 hM3.out).mono ?_
          rintro e w4 ⟨rfl, hF4⟩
          go_wp2_with fail
          go_ret
          exact ⟨by rw [← hr]; rfl, hF13.out.trans hF4⟩
        · have hn1 : (n != 0) = true := by simp [hn0]
          go_wp2_with fail
          refine (rightMatch_any t.mat v _ hG3 h83 hM3.out).mono ?_
          rintro e w4 ⟨rfl, hF4⟩
          go_wp2_with fail
          go_ret
          exact ⟨by rw [← hr]; rfl, hF13.out.trans hF4⟩
end Go.Proofs.YtdhmloejgoacaaaGreatDoor
namespace Go.Proofs.YtdhmloejgoacaaaGreatDoor
open Go.RowKit Go.Bl Go.Lq Go.Tq

theorem St.eq_iff (a b : St) : (a = b) ↔ (a.name = b.name ∧ a.least = b.least ∧ a.mat = b.mat) := by
  cases a; cases b; simp
set_option maxRecDepth 100000 in
set_option maxHeartbeats 1600000 in
theorem sameS_any (a b : St) (va vb : Value) (w : World) (ha : StV w va a) (hb : StV w vb b) (hs : a.mat.length ≤ 2000000) :
    Calls Tryz.prog 69 #[va, vb] w fun e w' => e = .returned (.bool (decide (a = b))) ∧ Fr [] w w' := by
  obtain ⟨ma, rfl, hma⟩ := ha
  obtain ⟨mb, rfl, hmb⟩ := hb
  obtain ⟨K, hK⟩ : ∃ K : ByteArray, ⟨a.name.toArray⟩ = K := ⟨_, rfl⟩
  obtain ⟨L, hL⟩ : ∃ L : ByteArray, ⟨b.name.toArray⟩ = L := ⟨_, rfl⟩
  have hKL : (K.toList == L.toList) = decide (a.name = b.name) := by
    rw [beq_toList, ← hK, ← hL]
  obtain ⟨m, hm⟩ : ∃ m, a.least = m := ⟨_, rfl⟩
  obtain ⟨n, hn⟩ : ∃ n, b.least = n := ⟨_, rfl⟩
  rw [hK, hL, hm, hn]
  have hd : decide (a = b) = (decide (a.name = b.name) && (decide (m = n) && decide (a.mat = b.mat))) := by
    rw [Bool.eq_iff_iff]
    simp [St.eq_iff, hm, hn]
  rw [hd]
  obtain ⟨x, hx⟩ : ∃ x, decide (a.name = b.name) = x := ⟨_, rfl⟩
  rw [hx] at hKL ⊢
  clear hd hK hL hx hm hn
  have hF1 : Fr [] w ((w.alloc (.cells #[.string K, .int .i64 m, ma] 45)).alloc (.cells #[.string L, .int .i64 n, mb] 45)) := ((Fr.refl _ _).alloc _).alloc _
  have hE := fun W (h : Fr [] w W) => equalM_any a.mat b.mat ma mb W (hma.fr h) (hmb.fr h) hs
  clear hma hmb
  have HF1 := Lib.hid hF1
  cases x
  · go_enter Tryz.func69, Tryz.ntmps69
    go_wp2_with fail
    go_ret
    exact ⟨rfl, HF1.out⟩
  · by_cases hmn : m = n
    · have h2 : (m == n) = true := by simpa using hmn
      have hd : decide (m = n) = true := by simpa using hmn
      subst hmn
      go_enter Tryz.func69, Tryz.ntmps69
      go_wp2_with fail
      refine (hE _ HF1.out).mono ?_
      rintro e w2 ⟨rfl, hF2⟩
      go_wp2_with fail
      go_ret
      exact ⟨by simp, HF1.out.trans hF2⟩
    · have h2 : (m == n) = false := by simpa using hmn
      have hd : decide (m = n) = false := by simpa using hmn
      rw [hd]
      go_enter Tryz.func69, Tryz.ntmps69
      go_wp2_with fail
      go_ret
      exact ⟨rfl, HF1.out⟩
end Go.Proofs.YtdhmloejgoacaaaGreatDoor
