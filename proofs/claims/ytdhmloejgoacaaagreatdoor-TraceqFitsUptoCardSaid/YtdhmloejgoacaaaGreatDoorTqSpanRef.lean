/- The reference's units and Span of chapter 13. (Printed by genspanr.py.) -/
import Derived.Test.YtdhmloejgoacaaaGreatDoorMw24
set_option linter.unusedVariables false
set_option linter.unusedSimpArgs false
namespace Go.Proofs.YtdhmloejgoacaaaGreatDoor
open Go.RowKit Go.Bl Go.Lq Go.Tq

theorem digs_nine (k : Nat) : (digs k).length ≤ 9 ↔ k ≤ 999999999 := by
  have one : ∀ m, m < 10 → (digs m).length = 1 := fun m hm => by unfold digs; rw [if_pos hm]; rfl
  have step : ∀ m, 10 ≤ m → (digs m).length = (digs (m / 10)).length + 1 := fun m hm => by
    conv => lhs; unfold digs
    rw [if_neg (by omega)]; simp
  have key : ∀ (j m : Nat), (digs m).length ≤ j + 1 ↔ m < 10 ^ (j + 1) := by
    intro j
    induction j with
    | zero =>
      intro m
      by_cases hm : m < 10
      · rw [one m hm]; omega
      · rw [step m (by omega)]
        have : 1 ≤ (digs (m / 10)).length := by
          by_cases h2 : m / 10 < 10
          · rw [one _ h2]; omega
          · rw [step _ (by omega)]; omega
        omega
    | succ j ih =>
      intro m
      by_cases hm : m < 10
      · rw [one m hm]
        have : 10 ^ 1 ≤ 10 ^ (j + 1 + 1) := Nat.pow_le_pow_right (by omega) (by omega)
        omega
      · rw [step m (by omega)]
        have := ih (m / 10)
        rw [Nat.pow_succ 10 (j + 1)]
        omega
  have := key 8 k
  omega
theorem uc2 {w w' : World} {H : Nat} {T : TypeId} (h : w.heap[H]? = some (.cells unitCells T (0, 0))) (i j : Nat) {x y : Value} (hi : unitCells[i]? = some x) (hj : unitCells[j]? = some y) (hF : Fr [] w w') :
    w'.cell? ⟨H, i, none⟩ = some x ∧ w'.cell? ⟨H, j, none⟩ = some y ∧ Fr [] w w' := by
  have h2 := hF.obj h (by simp)
  exact ⟨by rw [cell_of h2]; exact hi, by rw [cell_of h2]; exact hj, hF⟩
set_option maxRecDepth 100000 in
theorem unitsR_any (w : World) : Calls Tryz.prog 115 #[] w fun e w' => e = .returned (.slice (some ⟨w.heap.size, 0, none⟩) 6 6) ∧ w' = w.alloc (.cells unitCells 158) := by
  go_enter Tryz.func115, Tryz.ntmps115
  go_wp2_with fail
  go_ret
  exact ⟨rfl, rfl⟩
def SpanRRel (n : Int) (H : Nat) (w : World) (v : Value) (wr : World) : Prop :=
  ∃ i : Nat, v = .int .i64 (i : Int) ∧ i ≤ 6 ∧ Fr [] w wr ∧ wr.heap[H]? = some (.cells unitCells 158 (0, 0)) ∧ spanP n = spanGo (units.drop i) n
set_option maxRecDepth 100000 in
set_option maxHeartbeats 2000000 in
theorem spanR_any (n : Int) (w : World) (hG : GV w) (h8 : 8 ≤ w.heap.size) : Calls Tryz.prog 95 #[.int .i64 n] w (SpanPost n w) := by
  go_enter Tryz.func95, Tryz.ntmps95
  by_cases hn : n < 1 ∨ 1125899906842624 < n
  · have hs : spanP n = none := by unfold spanP maxTime; rw [if_pos hn]
    rcases hn with hn | hn
    · have hn2 : n < 1 := hn
      go_wp2_with fail
      go_ret2
      exact ⟨Fr.refl _ _, by rw [hs]; rfl⟩
    · have hn2 : ¬ n < 1 := by omega
      have hn3 : n > 1125899906842624 := hn
      go_wp2_with fail
      go_ret2
      exact ⟨Fr.refl _ _, by rw [hs]; rfl⟩
  · have hs : spanP n = spanGo units n := by unfold spanP maxTime; rw [if_neg hn]
    have hn2 : ¬ n < 1 := by omega
    have hn3 : ¬ n > 1125899906842624 := by omega
    have hn4 : 1 ≤ n := by omega
    have hn5 : n ≤ 1125899906842624 := by omega
    clear hn
    have HS := Lib.hid hs
    clear hs
    go_wp2_with fail
    refine (unitsR_any w).mono ?_
    rintro e w1 ⟨rfl, hw1⟩
    obtain ⟨H, hH⟩ : ∃ H, w.heap.size = H := ⟨_, rfl⟩
    rw [hH]
    have H0 : SpanRRel n H w (.int .i64 0) w1 := ⟨0, rfl, by omega, by rw [hw1]; exact (Fr.refl _ _).alloc _, by rw [hw1, ← hH]; exact Go.Bl.heap_alloc _ _, HS.out⟩
    clear hw1
    go_wp2_with fail
    go_loopw [5] (fun v wr => SpanRRel n H w v wr) (fun v _ => 6 - (intOf v).toNat)
    case atStart => exact H0
    case round =>
      clear H0
      obtain ⟨i, rfl, hi, hF, hT, hsp⟩ := hrel
      have HP := Lib.hid hsp
      clear hsp
      have d0 := cell_of hT 0
      have d1 := cell_of hT 1
      have d2 := cell_of hT 2
      have d3 := cell_of hT 3
      have d4 := cell_of hT 4
      have d5 := cell_of hT 5
      have d6 := cell_of hT 6
      have d7 := cell_of hT 7
      have d8 := cell_of hT 8
      have d9 := cell_of hT 9
      have d10 := cell_of hT 10
      have d11 := cell_of hT 11
      unfold unitCells at d0 d1 d2 d3 d4 d5 d6 d7 d8 d9 d10 d11
      simp only [List.getElem?_toArray, List.getElem?_cons_zero, List.getElem?_cons_succ] at d0 d1 d2 d3 d4 d5 d6 d7 d8 d9 d10 d11
      have hic : i = 0 ∨ i = 1 ∨ i = 2 ∨ i = 3 ∨ i = 4 ∨ i = 5 ∨ i = 6 := by omega
      rcases hic with rfl | rfl | rfl | rfl | rfl | rfl | rfl
      · have hstep : spanGo (units.drop 0) n = if n % 3600000000000 = 0 then (if (digs (n / 3600000000000).toNat).length ≤ 9 then some (digs (n / 3600000000000).toNat ++ [104]) else none) else spanGo (units.drop 1) n := rfl
        by_cases hq : n % 3600000000000 = 0
        · have hq0 : (n % 3600000000000 == 0) = true := by simpa using hq
          have HQ := Lib.hid hq
          clear hq
          have hwq : True → IntKind.i64.wrap (n.tdiv 3600000000000) = n / 3600000000000 := fun _ => by rw [Int.tdiv_eq_ediv_of_nonneg (by omega), IntKind.wrap_i64]; omega
          have hq3 : 0 ≤ n / 3600000000000 := by omega
          have hq4 : n / 3600000000000 ≤ 9223372036854775807 := by omega
          have hGr := hG.frn hF h8
          have hfi := fun W (hW : Fr [] wr W) => formatInt_any (n := n / 3600000000000) hq3 hq4 (hGr.frn hW (Nat.le_trans h8 hF.size))
          have hnine := digs_nine (n / 3600000000000).toNat
          obtain ⟨D, hD⟩ : ∃ D, digs (n / 3600000000000).toNat = D := ⟨_, rfl⟩
          obtain ⟨X, hX⟩ : ∃ X, (⟨D.toArray⟩ : ByteArray) = X := ⟨_, rfl⟩
          have hXs : X.size = D.length := by rw [← hX]; simp [ByteArray.size]
          rw [hD, hX] at hfi
          rw [hD] at hnine
          have HST := Lib.hid hstep
          have HD := Lib.hid (And.intro hD hX)
          have HF := Lib.hid (And.intro hF hT)
          clear hD hX hstep
          by_cases hL : 999999999 < n / 3600000000000
          · exfalso; omega
          · have hL2 : ¬ n / 3600000000000 > 999999999 := hL
            have hlen : D.length ≤ 9 := by omega
            have hr : spanP n = some (D ++ [104]) := by rw [HP.out, HST.out, if_pos HQ.out, HD.out.1, if_pos hlen]
            have HR := Lib.hid hr
            have g1 : ¬ 9223372036854775807 < X.size + 1 := by omega
            clear hr hL hnine hlen hF hXs
            go_wp2_with fail
            go_region_held3 (fun w' => w'.cell? ⟨H, 0, none⟩ = some (.string ⟨#[104]⟩) ∧ w'.cell? ⟨H, 1, none⟩ = some (.int .i64 3600000000000) ∧ Fr [] wr w') (exact uc2 HF.out.2 0 1 rfl rfl (by (repeat (first | with_reducible exact Fr.refl _ _ | assumption | with_reducible refine Fr.drew ?_)))) (first | (go_at_call 114; refine (hfi _ (by (repeat (first | with_reducible exact Fr.refl _ _ | assumption | with_reducible refine Fr.drew ?_)))).mono ?_; rintro e w6 ⟨rfl, hF6⟩; have hX6 : Fr [] wr w6 := Fr.trans (by (repeat (first | with_reducible exact Fr.refl _ _ | assumption | with_reducible refine Fr.drew ?_))) hF6))
            all_goals
              rename_i hh
              obtain ⟨y0, y1, y3⟩ := hh
              go_wp2_with fail
              go_ret2
              refine ⟨HF.out.1.trans y3, ?_⟩
              rw [HR.out, ← HD.out.2]
              exact ret_val (congrArg (fun x => Value.tuple #[.string x, .int .i64 0]) (by apply bs_ext; simp))
        · have hq0 : (n % 3600000000000 == 0) = false := by simpa using hq
          have hr : spanP n = spanGo (units.drop 1) n := by rw [HP.out, hstep, if_neg hq]
          have HR := Lib.hid hr
          have HF := Lib.hid (And.intro hF hT)
          clear hr hstep hq
          go_wp2_with fail
          exact ⟨⟨1, rfl, by omega, HF.out.1, HF.out.2, HR.out⟩, by simp [intOf]⟩
      · have hstep : spanGo (units.drop 1) n = if n % 60000000000 = 0 then (if (digs (n / 60000000000).toNat).length ≤ 9 then some (digs (n / 60000000000).toNat ++ [109]) else none) else spanGo (units.drop 2) n := rfl
        by_cases hq : n % 60000000000 = 0
        · have hq0 : (n % 60000000000 == 0) = true := by simpa using hq
          have HQ := Lib.hid hq
          clear hq
          have hwq : True → IntKind.i64.wrap (n.tdiv 60000000000) = n / 60000000000 := fun _ => by rw [Int.tdiv_eq_ediv_of_nonneg (by omega), IntKind.wrap_i64]; omega
          have hq3 : 0 ≤ n / 60000000000 := by omega
          have hq4 : n / 60000000000 ≤ 9223372036854775807 := by omega
          have hGr := hG.frn hF h8
          have hfi := fun W (hW : Fr [] wr W) => formatInt_any (n := n / 60000000000) hq3 hq4 (hGr.frn hW (Nat.le_trans h8 hF.size))
          have hnine := digs_nine (n / 60000000000).toNat
          obtain ⟨D, hD⟩ : ∃ D, digs (n / 60000000000).toNat = D := ⟨_, rfl⟩
          obtain ⟨X, hX⟩ : ∃ X, (⟨D.toArray⟩ : ByteArray) = X := ⟨_, rfl⟩
          have hXs : X.size = D.length := by rw [← hX]; simp [ByteArray.size]
          rw [hD, hX] at hfi
          rw [hD] at hnine
          have HST := Lib.hid hstep
          have HD := Lib.hid (And.intro hD hX)
          have HF := Lib.hid (And.intro hF hT)
          clear hD hX hstep
          by_cases hL : 999999999 < n / 60000000000
          · exfalso; omega
          · have hL2 : ¬ n / 60000000000 > 999999999 := hL
            have hlen : D.length ≤ 9 := by omega
            have hr : spanP n = some (D ++ [109]) := by rw [HP.out, HST.out, if_pos HQ.out, HD.out.1, if_pos hlen]
            have HR := Lib.hid hr
            have g1 : ¬ 9223372036854775807 < X.size + 1 := by omega
            clear hr hL hnine hlen hF hXs
            go_wp2_with fail
            go_region_held3 (fun w' => w'.cell? ⟨H, 2, none⟩ = some (.string ⟨#[109]⟩) ∧ w'.cell? ⟨H, 3, none⟩ = some (.int .i64 60000000000) ∧ Fr [] wr w') (exact uc2 HF.out.2 2 3 rfl rfl (by (repeat (first | with_reducible exact Fr.refl _ _ | assumption | with_reducible refine Fr.drew ?_)))) (first | (go_at_call 114; refine (hfi _ (by (repeat (first | with_reducible exact Fr.refl _ _ | assumption | with_reducible refine Fr.drew ?_)))).mono ?_; rintro e w6 ⟨rfl, hF6⟩; have hX6 : Fr [] wr w6 := Fr.trans (by (repeat (first | with_reducible exact Fr.refl _ _ | assumption | with_reducible refine Fr.drew ?_))) hF6))
            all_goals
              rename_i hh
              obtain ⟨y0, y1, y3⟩ := hh
              go_wp2_with fail
              go_ret2
              refine ⟨HF.out.1.trans y3, ?_⟩
              rw [HR.out, ← HD.out.2]
              exact ret_val (congrArg (fun x => Value.tuple #[.string x, .int .i64 0]) (by apply bs_ext; simp))
        · have hq0 : (n % 60000000000 == 0) = false := by simpa using hq
          have hr : spanP n = spanGo (units.drop 2) n := by rw [HP.out, hstep, if_neg hq]
          have HR := Lib.hid hr
          have HF := Lib.hid (And.intro hF hT)
          clear hr hstep hq
          go_wp2_with fail
          exact ⟨⟨2, rfl, by omega, HF.out.1, HF.out.2, HR.out⟩, by simp [intOf]⟩
      · have hstep : spanGo (units.drop 2) n = if n % 1000000000 = 0 then (if (digs (n / 1000000000).toNat).length ≤ 9 then some (digs (n / 1000000000).toNat ++ [115]) else none) else spanGo (units.drop 3) n := rfl
        by_cases hq : n % 1000000000 = 0
        · have hq0 : (n % 1000000000 == 0) = true := by simpa using hq
          have HQ := Lib.hid hq
          clear hq
          have hwq : True → IntKind.i64.wrap (n.tdiv 1000000000) = n / 1000000000 := fun _ => by rw [Int.tdiv_eq_ediv_of_nonneg (by omega), IntKind.wrap_i64]; omega
          have hq3 : 0 ≤ n / 1000000000 := by omega
          have hq4 : n / 1000000000 ≤ 9223372036854775807 := by omega
          have hGr := hG.frn hF h8
          have hfi := fun W (hW : Fr [] wr W) => formatInt_any (n := n / 1000000000) hq3 hq4 (hGr.frn hW (Nat.le_trans h8 hF.size))
          have hnine := digs_nine (n / 1000000000).toNat
          obtain ⟨D, hD⟩ : ∃ D, digs (n / 1000000000).toNat = D := ⟨_, rfl⟩
          obtain ⟨X, hX⟩ : ∃ X, (⟨D.toArray⟩ : ByteArray) = X := ⟨_, rfl⟩
          have hXs : X.size = D.length := by rw [← hX]; simp [ByteArray.size]
          rw [hD, hX] at hfi
          rw [hD] at hnine
          have HST := Lib.hid hstep
          have HD := Lib.hid (And.intro hD hX)
          have HF := Lib.hid (And.intro hF hT)
          clear hD hX hstep
          by_cases hL : 999999999 < n / 1000000000
          · exfalso; omega
          · have hL2 : ¬ n / 1000000000 > 999999999 := hL
            have hlen : D.length ≤ 9 := by omega
            have hr : spanP n = some (D ++ [115]) := by rw [HP.out, HST.out, if_pos HQ.out, HD.out.1, if_pos hlen]
            have HR := Lib.hid hr
            have g1 : ¬ 9223372036854775807 < X.size + 1 := by omega
            clear hr hL hnine hlen hF hXs
            go_wp2_with fail
            go_region_held3 (fun w' => w'.cell? ⟨H, 4, none⟩ = some (.string ⟨#[115]⟩) ∧ w'.cell? ⟨H, 5, none⟩ = some (.int .i64 1000000000) ∧ Fr [] wr w') (exact uc2 HF.out.2 4 5 rfl rfl (by (repeat (first | with_reducible exact Fr.refl _ _ | assumption | with_reducible refine Fr.drew ?_)))) (first | (go_at_call 114; refine (hfi _ (by (repeat (first | with_reducible exact Fr.refl _ _ | assumption | with_reducible refine Fr.drew ?_)))).mono ?_; rintro e w6 ⟨rfl, hF6⟩; have hX6 : Fr [] wr w6 := Fr.trans (by (repeat (first | with_reducible exact Fr.refl _ _ | assumption | with_reducible refine Fr.drew ?_))) hF6))
            all_goals
              rename_i hh
              obtain ⟨y0, y1, y3⟩ := hh
              go_wp2_with fail
              go_ret2
              refine ⟨HF.out.1.trans y3, ?_⟩
              rw [HR.out, ← HD.out.2]
              exact ret_val (congrArg (fun x => Value.tuple #[.string x, .int .i64 0]) (by apply bs_ext; simp))
        · have hq0 : (n % 1000000000 == 0) = false := by simpa using hq
          have hr : spanP n = spanGo (units.drop 3) n := by rw [HP.out, hstep, if_neg hq]
          have HR := Lib.hid hr
          have HF := Lib.hid (And.intro hF hT)
          clear hr hstep hq
          go_wp2_with fail
          exact ⟨⟨3, rfl, by omega, HF.out.1, HF.out.2, HR.out⟩, by simp [intOf]⟩
      · have hstep : spanGo (units.drop 3) n = if n % 1000000 = 0 then (if (digs (n / 1000000).toNat).length ≤ 9 then some (digs (n / 1000000).toNat ++ [109, 115]) else none) else spanGo (units.drop 4) n := rfl
        by_cases hq : n % 1000000 = 0
        · have hq0 : (n % 1000000 == 0) = true := by simpa using hq
          have HQ := Lib.hid hq
          clear hq
          have hwq : True → IntKind.i64.wrap (n.tdiv 1000000) = n / 1000000 := fun _ => by rw [Int.tdiv_eq_ediv_of_nonneg (by omega), IntKind.wrap_i64]; omega
          have hq3 : 0 ≤ n / 1000000 := by omega
          have hq4 : n / 1000000 ≤ 9223372036854775807 := by omega
          have hGr := hG.frn hF h8
          have hfi := fun W (hW : Fr [] wr W) => formatInt_any (n := n / 1000000) hq3 hq4 (hGr.frn hW (Nat.le_trans h8 hF.size))
          have hnine := digs_nine (n / 1000000).toNat
          obtain ⟨D, hD⟩ : ∃ D, digs (n / 1000000).toNat = D := ⟨_, rfl⟩
          obtain ⟨X, hX⟩ : ∃ X, (⟨D.toArray⟩ : ByteArray) = X := ⟨_, rfl⟩
          have hXs : X.size = D.length := by rw [← hX]; simp [ByteArray.size]
          rw [hD, hX] at hfi
          rw [hD] at hnine
          have HST := Lib.hid hstep
          have HD := Lib.hid (And.intro hD hX)
          have HF := Lib.hid (And.intro hF hT)
          clear hD hX hstep
          by_cases hL : 999999999 < n / 1000000
          · have hL2 : n / 1000000 > 999999999 := hL
            have hr : spanP n = none := by rw [HP.out, HST.out, if_pos HQ.out, HD.out.1, if_neg (by omega)]
            have HR := Lib.hid hr
            clear hr hL hnine hfi
            go_wp2_with fail
            go_ret2
            exact ⟨HF.out.1, by rw [HR.out]; rfl⟩
          · have hL2 : ¬ n / 1000000 > 999999999 := hL
            have hlen : D.length ≤ 9 := by omega
            have hr : spanP n = some (D ++ [109, 115]) := by rw [HP.out, HST.out, if_pos HQ.out, HD.out.1, if_pos hlen]
            have HR := Lib.hid hr
            have g1 : ¬ 9223372036854775807 < X.size + 2 := by omega
            clear hr hL hnine hlen hF hXs
            go_wp2_with fail
            go_region_held3 (fun w' => w'.cell? ⟨H, 6, none⟩ = some (.string ⟨#[109, 115]⟩) ∧ w'.cell? ⟨H, 7, none⟩ = some (.int .i64 1000000) ∧ Fr [] wr w') (exact uc2 HF.out.2 6 7 rfl rfl (by (repeat (first | with_reducible exact Fr.refl _ _ | assumption | with_reducible refine Fr.drew ?_)))) (first | (go_at_call 114; refine (hfi _ (by (repeat (first | with_reducible exact Fr.refl _ _ | assumption | with_reducible refine Fr.drew ?_)))).mono ?_; rintro e w6 ⟨rfl, hF6⟩; have hX6 : Fr [] wr w6 := Fr.trans (by (repeat (first | with_reducible exact Fr.refl _ _ | assumption | with_reducible refine Fr.drew ?_))) hF6))
            all_goals
              rename_i hh
              obtain ⟨y0, y1, y3⟩ := hh
              go_wp2_with fail
              go_ret2
              refine ⟨HF.out.1.trans y3, ?_⟩
              rw [HR.out, ← HD.out.2]
              exact ret_val (congrArg (fun x => Value.tuple #[.string x, .int .i64 0]) (by apply bs_ext; simp))
        · have hq0 : (n % 1000000 == 0) = false := by simpa using hq
          have hr : spanP n = spanGo (units.drop 4) n := by rw [HP.out, hstep, if_neg hq]
          have HR := Lib.hid hr
          have HF := Lib.hid (And.intro hF hT)
          clear hr hstep hq
          go_wp2_with fail
          exact ⟨⟨4, rfl, by omega, HF.out.1, HF.out.2, HR.out⟩, by simp [intOf]⟩
      · have hstep : spanGo (units.drop 4) n = if n % 1000 = 0 then (if (digs (n / 1000).toNat).length ≤ 9 then some (digs (n / 1000).toNat ++ [117, 115]) else none) else spanGo (units.drop 5) n := rfl
        by_cases hq : n % 1000 = 0
        · have hq0 : (n % 1000 == 0) = true := by simpa using hq
          have HQ := Lib.hid hq
          clear hq
          have hwq : True → IntKind.i64.wrap (n.tdiv 1000) = n / 1000 := fun _ => by rw [Int.tdiv_eq_ediv_of_nonneg (by omega), IntKind.wrap_i64]; omega
          have hq3 : 0 ≤ n / 1000 := by omega
          have hq4 : n / 1000 ≤ 9223372036854775807 := by omega
          have hGr := hG.frn hF h8
          have hfi := fun W (hW : Fr [] wr W) => formatInt_any (n := n / 1000) hq3 hq4 (hGr.frn hW (Nat.le_trans h8 hF.size))
          have hnine := digs_nine (n / 1000).toNat
          obtain ⟨D, hD⟩ : ∃ D, digs (n / 1000).toNat = D := ⟨_, rfl⟩
          obtain ⟨X, hX⟩ : ∃ X, (⟨D.toArray⟩ : ByteArray) = X := ⟨_, rfl⟩
          have hXs : X.size = D.length := by rw [← hX]; simp [ByteArray.size]
          rw [hD, hX] at hfi
          rw [hD] at hnine
          have HST := Lib.hid hstep
          have HD := Lib.hid (And.intro hD hX)
          have HF := Lib.hid (And.intro hF hT)
          clear hD hX hstep
          by_cases hL : 999999999 < n / 1000
          · have hL2 : n / 1000 > 999999999 := hL
            have hr : spanP n = none := by rw [HP.out, HST.out, if_pos HQ.out, HD.out.1, if_neg (by omega)]
            have HR := Lib.hid hr
            clear hr hL hnine hfi
            go_wp2_with fail
            go_ret2
            exact ⟨HF.out.1, by rw [HR.out]; rfl⟩
          · have hL2 : ¬ n / 1000 > 999999999 := hL
            have hlen : D.length ≤ 9 := by omega
            have hr : spanP n = some (D ++ [117, 115]) := by rw [HP.out, HST.out, if_pos HQ.out, HD.out.1, if_pos hlen]
            have HR := Lib.hid hr
            have g1 : ¬ 9223372036854775807 < X.size + 2 := by omega
            clear hr hL hnine hlen hF hXs
            go_wp2_with fail
            go_region_held3 (fun w' => w'.cell? ⟨H, 8, none⟩ = some (.string ⟨#[117, 115]⟩) ∧ w'.cell? ⟨H, 9, none⟩ = some (.int .i64 1000) ∧ Fr [] wr w') (exact uc2 HF.out.2 8 9 rfl rfl (by (repeat (first | with_reducible exact Fr.refl _ _ | assumption | with_reducible refine Fr.drew ?_)))) (first | (go_at_call 114; refine (hfi _ (by (repeat (first | with_reducible exact Fr.refl _ _ | assumption | with_reducible refine Fr.drew ?_)))).mono ?_; rintro e w6 ⟨rfl, hF6⟩; have hX6 : Fr [] wr w6 := Fr.trans (by (repeat (first | with_reducible exact Fr.refl _ _ | assumption | with_reducible refine Fr.drew ?_))) hF6))
            all_goals
              rename_i hh
              obtain ⟨y0, y1, y3⟩ := hh
              go_wp2_with fail
              go_ret2
              refine ⟨HF.out.1.trans y3, ?_⟩
              rw [HR.out, ← HD.out.2]
              exact ret_val (congrArg (fun x => Value.tuple #[.string x, .int .i64 0]) (by apply bs_ext; simp))
        · have hq0 : (n % 1000 == 0) = false := by simpa using hq
          have hr : spanP n = spanGo (units.drop 5) n := by rw [HP.out, hstep, if_neg hq]
          have HR := Lib.hid hr
          have HF := Lib.hid (And.intro hF hT)
          clear hr hstep hq
          go_wp2_with fail
          exact ⟨⟨5, rfl, by omega, HF.out.1, HF.out.2, HR.out⟩, by simp [intOf]⟩
      · have hstep : spanGo (units.drop 5) n = if (digs n.toNat).length ≤ 9 then some (digs n.toNat ++ [110, 115]) else none := by
          show (if n % 1 = 0 then (if (digs (n / 1).toNat).length ≤ 9 then some (digs (n / 1).toNat ++ [110, 115]) else none) else _) = _
          rw [if_pos (by omega), Int.ediv_one]
        have hwq : True → IntKind.i64.wrap n = n := fun _ => by rw [IntKind.wrap_i64]; omega
        have hq3 : 0 ≤ n := by omega
        have hq4 : n ≤ 9223372036854775807 := by omega
        have hGr := hG.frn hF h8
        have hfi := fun W (hW : Fr [] wr W) => formatInt_any (n := n) hq3 hq4 (hGr.frn hW (Nat.le_trans h8 hF.size))
        have hnine := digs_nine (n).toNat
        obtain ⟨D, hD⟩ : ∃ D, digs (n).toNat = D := ⟨_, rfl⟩
        obtain ⟨X, hX⟩ : ∃ X, (⟨D.toArray⟩ : ByteArray) = X := ⟨_, rfl⟩
        have hXs : X.size = D.length := by rw [← hX]; simp [ByteArray.size]
        rw [hD, hX] at hfi
        rw [hD] at hnine
        have HST := Lib.hid hstep
        have HD := Lib.hid (And.intro hD hX)
        have HF := Lib.hid (And.intro hF hT)
        clear hD hX hstep
        by_cases hL : 999999999 < n
        · have hL2 : n > 999999999 := hL
          have hr : spanP n = none := by rw [HP.out, HST.out, HD.out.1, if_neg (by omega)]
          have HR := Lib.hid hr
          clear hr hL hnine hfi
          go_wp2_with fail
          go_ret2
          exact ⟨HF.out.1, by rw [HR.out]; rfl⟩
        · have hL2 : ¬ n > 999999999 := hL
          have hlen : D.length ≤ 9 := by omega
          have hr : spanP n = some (D ++ [110, 115]) := by rw [HP.out, HST.out, HD.out.1, if_pos hlen]
          have HR := Lib.hid hr
          have g1 : ¬ 9223372036854775807 < X.size + 2 := by omega
          clear hr hL hnine hlen hF hXs
          go_wp2_with fail
          go_region_held3 (fun w' => w'.cell? ⟨H, 10, none⟩ = some (.string ⟨#[110, 115]⟩) ∧ w'.cell? ⟨H, 11, none⟩ = some (.int .i64 1) ∧ Fr [] wr w') (exact uc2 HF.out.2 10 11 rfl rfl (by (repeat (first | with_reducible exact Fr.refl _ _ | assumption | with_reducible refine Fr.drew ?_)))) (first | (go_at_call 114; refine (hfi _ (by (repeat (first | with_reducible exact Fr.refl _ _ | assumption | with_reducible refine Fr.drew ?_)))).mono ?_; rintro e w6 ⟨rfl, hF6⟩; have hX6 : Fr [] wr w6 := Fr.trans (by (repeat (first | with_reducible exact Fr.refl _ _ | assumption | with_reducible refine Fr.drew ?_))) hF6))
          all_goals
            rename_i hh
            obtain ⟨y0, y1, y3⟩ := hh
            go_wp2_with fail
            go_ret2
            refine ⟨HF.out.1.trans y3, ?_⟩
            rw [HR.out, ← HD.out.2]
            exact ret_val (congrArg (fun x => Value.tuple #[.string x, .int .i64 0]) (by apply bs_ext; simp))
      · have hr : spanP n = none := HP.out
        have HR := Lib.hid hr
        clear hr
        go_wp2_with fail
        go_ret2
        exact ⟨hF, by rw [HR.out]; rfl⟩
end Go.Proofs.YtdhmloejgoacaaaGreatDoor
