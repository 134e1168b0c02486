/- attr.Key. -/
import Derived.Test.YtaniaknphjnlkaaGreatDoorLqRight
namespace Go.Proofs.YtaniaknphjnlkaaGreatDoor
open Go.RowKit Go.Bl Go.Lq

theorem byte_at (s : ByteArray) (k : Nat) (h : k < s.size) : s.data.toList[k]'(by rw [bytes_len]; exact h) = s[k] := by cases s; rfl
def KeyLoop (s : ByteArray) (w : World) (iv : Value) (wr : World) : Prop := ∃ k, iv = .int .i64 ((k : Nat) : Int) ∧ k ≤ s.size ∧ wr = w ∧ (s.data.toList.take k).all isTail = true
theorem keyP_cases (s : ByteArray) : keyP s.data.toList = (decide (0 < s.size) && decide (s.size ≤ 64) && ((s.data.toList.head?.map isHead).getD false) && s.data.toList.all isTail) := by
  have hl := bytes_len s
  cases hs : s.data.toList with
  | nil => rw [hs] at hl; simp [keyP]
  | cons c cs =>
    rw [hs] at hl
    simp only [List.length_cons] at hl
    unfold keyP
    rw [decide_eq_true (show 0 < s.size by omega)]
    simp only [List.length_cons, hl, Bool.true_and, List.head?_cons, Option.map_some, Option.getD_some, List.all_cons]
    cases hh : isHead c with
    | false => simp
    | true => simp [isTail, hh]

set_option maxRecDepth 100000 in
set_option maxHeartbeats 400000 in
theorem key_anyA (s : ByteArray) (w : World) : Calls Tryz.prog 72 #[.string s] w fun e w' => e = .returned (.bool (keyP s.data.toList)) ∧ w' = w := by
  have he := empty_iff s
  have hl := bytes_len s
  rw [keyP_cases]
  by_cases h0 : s.data.toList = []
  · have hz : s.size = 0 := by rw [← hl, h0]; rfl
    rw [decide_eq_true h0] at he
    rw [decide_eq_false (show ¬ 0 < s.size by omega)]
    clear h0 hz
    go_enter Tryz.func72, Tryz.ntmps72
    go_wp2
    go_ret
    exact ⟨rfl, rfl⟩
  · have hp : 0 < s.size := by
      have : s.data.toList.length ≠ 0 := fun e => h0 (List.eq_nil_of_length_eq_zero e)
      omega
    rw [decide_eq_false h0] at he
    rw [decide_eq_true hp, Bool.true_and]
    by_cases h64 : s.size ≤ 64
    · rw [decide_eq_true h64, Bool.true_and]
      have g1 : ¬ (s.size : Int) > 64 := by omega
      have g2 : (0 : Int) ≤ 0 ∧ (0 : Int) < (s.size : Int) := by omega
      obtain ⟨c, hc⟩ : ∃ c, s[0]'hp = c := ⟨_, rfl⟩
      have hh0 : s.data.toList.head? = some c := by
        rw [List.head?_eq_getElem?, List.getElem?_eq_getElem (by omega), byte_at s 0 hp, hc]
      have hd := head_any c w
      rw [hh0]
      simp only [Option.map_some, Option.getD_some]
      obtain ⟨b, hb⟩ : ∃ b, isHead c = b := ⟨_, rfl⟩
      rw [hb] at hd ⊢
      have HL := Lib.hid hl
      clear hb hh0 h0 hl
      cases b with
      | false =>
        go_enter Tryz.func72, Tryz.ntmps72
        go_wp2_with fail
        refine hd.mono ?_
        rintro e w' ⟨rfl, rfl⟩
        go_wp2
        go_ret
        exact ⟨rfl, rfl⟩
      | true =>
        rw [Bool.true_and]
        obtain ⟨ans, hans⟩ : ∃ ans, s.data.toList.all isTail = ans := ⟨_, rfl⟩
        rw [hans]
        have HANS := Lib.hid hans
        clear hans
        go_enter Tryz.func72, Tryz.ntmps72
        go_wp2_with fail
        refine hd.mono ?_
        rintro e w' ⟨rfl, hw⟩
        obtain rfl := hw.symm
        go_wp2_with fail
        go_loopw [19] (fun iv wr => KeyLoop s w iv wr) (fun iv _ => s.size - (intOf iv).toNat)
        case atStart => exact ⟨0, rfl, Nat.zero_le _, rfl, rfl⟩
        case round =>
          obtain ⟨k, rfl, hk, rfl, hall⟩ := hrel
          by_cases hk2 : k < s.size
          · have g3 : (k : Int) < (s.size : Int) := by omega
            have g4 : (0 : Int) ≤ (k : Int) ∧ (k : Int) < (s.size : Int) := by omega
            obtain ⟨d, hd2⟩ : ∃ d, s[k] = d := ⟨_, rfl⟩
            have htl := tail_any d wr
            have hda : s.data.toList[k]'(by rw [HL.out]; exact hk2) = d := by rw [byte_at s k hk2, hd2]
            have HA := Lib.hid (And.intro hall hda)
            have hkk : k + 1 ≤ 100000 := by omega
            clear hall hda
            have hwk : True → wrap64 ((k : Int) + 1) = (k : Int) + 1 := fun _ => wrap_sum (x := k) (c := 1) hkk
            obtain ⟨bt, hbt⟩ : ∃ bt, isTail d = bt := ⟨_, rfl⟩
            rw [hbt] at htl
            have HBT := Lib.hid hbt
            clear hbt
            go_wp2_with fail
            refine htl.mono ?_
            rintro e w' ⟨rfl, hw⟩
            obtain rfl := hw.symm
            cases bt with
            | false =>
              go_wp2_with fail
              go_ret
              refine ⟨?_, rfl⟩
              have : s.data.toList.all isTail = false := by
                rw [List.all_eq_false]
                exact ⟨d, by rw [← HA.out.2]; exact List.getElem_mem _, by rw [HBT.out]; simp⟩
              rw [← HANS.out, this]
              rfl
            | true =>
              go_wp2_with fail
              refine ⟨⟨k + 1, rfl, hk2, rfl, ?_⟩, by simp [intOf]; omega⟩
              rw [List.take_add_one, List.getElem?_eq_getElem (by rw [HL.out]; exact hk2), HA.out.2, List.all_append, HA.out.1]
              simp [HBT.out]
          · obtain rfl : k = s.size := by omega
            have g3 : ¬ (s.size : Int) < (s.size : Int) := by omega
            rw [List.take_of_length_le (by rw [HL.out]; exact Nat.le_refl _)] at hall
            have HA := Lib.hid hall
            clear hall
            go_wp2_with fail
            go_ret
            refine ⟨?_, rfl⟩
            rw [← HANS.out, HA.out]
            rfl
    · rw [decide_eq_false h64]
      have g1 : (s.size : Int) > 64 := by omega
      go_enter Tryz.func72, Tryz.ntmps72
      go_wp2
      go_ret
      exact ⟨rfl, rfl⟩
end Go.Proofs.YtaniaknphjnlkaaGreatDoor
