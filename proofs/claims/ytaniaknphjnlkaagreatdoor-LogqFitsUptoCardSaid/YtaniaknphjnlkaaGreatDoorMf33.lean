/- Right: can a query be? -/
import Derived.Test.YtaniaknphjnlkaaGreatDoorLqText
import Derived.Test.YtaniaknphjnlkaaGreatDoorLqParse
import Derived.Test.YtaniaknphjnlkaaGreatDoorShelfVal
namespace Go.Proofs.YtaniaknphjnlkaaGreatDoor
open Go.RowKit Go.Bl Go.Lq

theorem valid_any (s : ByteArray) (w : World) (hs : s.size ≤ 1024) (hG : GV w) : Calls Tryz.prog 91 #[.string s] w fun e w' => e = .returned (.bool (Lib.validD s.data.toList)) ∧ Fr [] w w' :=
  (Any.utf8_ValidString Tryz.lays196 s w (by omega) hG.utf).mono fun _ _ h => ⟨h.1, fr_newR h.2 []⟩

set_option maxRecDepth 100000 in
theorem head_any (c : UInt8) (w : World) : Calls Tryz.prog 89 #[.int .u8 (c.toNat : Int)] w fun e w' => e = .returned (.bool (isHead c)) ∧ w' = w := by
  have hb := bits_or c
  have ho := head_or c
  obtain ⟨d, hd⟩ : ∃ d, c ||| 32 = d := ⟨_, rfl⟩
  rw [hd] at hb ho
  have b2 : ((c.toNat : Int) == 95) = decide (c = 95) := beq_u8 c 95 (by omega)
  obtain ⟨x, hx⟩ : ∃ x, decide (97 ≤ d.toNat) = x := ⟨_, rfl⟩
  obtain ⟨y, hy⟩ : ∃ y, decide (d.toNat ≤ 122) = y := ⟨_, rfl⟩
  have ho2 : isHead c = ((x && y) || decide (c = 95)) := by rw [ho, ← hx, ← hy]; simp
  obtain ⟨z, hz⟩ : ∃ z, decide (c = 95) = z := ⟨_, rfl⟩
  rw [hz] at b2 ho2
  rw [ho2]
  have hx2 : decide ((d.toNat : Int) ≥ 97) = x := by rw [← hx]; apply decide_eq_decide.2; omega
  have hy2 : decide ((d.toNat : Int) ≤ 122) = y := by rw [← hy]; apply decide_eq_decide.2; omega
  clear ho ho2 hx hy hz hd
  go_enter Tryz.func89, Tryz.ntmps89
  go_wp2
  all_goals (go_ret; exact ⟨by simp_all, rfl⟩)
set_option maxRecDepth 100000 in
theorem tail_any (c : UInt8) (w : World) : Calls Tryz.prog 90 #[.int .u8 (c.toNat : Int)] w fun e w' => e = .returned (.bool (isTail c)) ∧ w' = w := by
  have hh := head_any c w
  obtain ⟨a, ha⟩ : ∃ a, isHead c = a := ⟨_, rfl⟩
  rw [ha] at hh
  obtain ⟨x, hx⟩ : ∃ x, decide (48 ≤ c.toNat) = x := ⟨_, rfl⟩
  obtain ⟨y, hy⟩ : ∃ y, decide (c.toNat ≤ 57) = y := ⟨_, rfl⟩
  obtain ⟨z, hz⟩ : ∃ z, decide (c = 46) = z := ⟨_, rfl⟩
  have b2 : ((c.toNat : Int) == 46) = decide (c = 46) := beq_u8 c 46 (by omega)
  rw [hz] at b2
  have hx2 : decide ((c.toNat : Int) ≥ 48) = x := by rw [← hx]; apply decide_eq_decide.2; omega
  have hy2 : decide ((c.toNat : Int) ≤ 57) = y := by rw [← hy]; apply decide_eq_decide.2; omega
  have ht : isTail c = (a || (x && y) || z) := by
    unfold isTail isDigit
    rw [ha, ← hx, ← hy, ← hz]
    congr 1
  rw [ht]
  clear ht ha hx hy hz
  go_enter Tryz.func90, Tryz.ntmps90
  go_wp2_with fail
  refine hh.mono ?_
  rintro e w' ⟨rfl, rfl⟩
  go_wp2
  all_goals (go_ret; exact ⟨by simp_all, rfl⟩)

set_option maxRecDepth 100000 in
theorem plain_any (s : ByteArray) (w : World) (hG : GV w) : Calls Tryz.prog 73 #[.string s] w fun e w' => e = .returned (.bool (plainP Lib.validD s.data.toList)) ∧ Fr [] w w' := by
  have hlen := bytes_len s
  by_cases h : s.size ≤ 256
  · have hv := valid_any s w (by omega) hG
    have hp : plainP Lib.validD s.data.toList = Lib.validD s.data.toList := by unfold plainP; rw [hlen, decide_eq_true h, Bool.true_and]
    rw [hp]
    obtain ⟨b, hb⟩ : ∃ b, Lib.validD s.data.toList = b := ⟨_, rfl⟩
    rw [hb] at hv ⊢
    have h1 : (s.size : Int) ≤ 256 := by omega
    clear hp hb
    go_enter Tryz.func73, Tryz.ntmps73
    go_wp2_with fail
    refine hv.mono ?_
    rintro e w' ⟨rfl, hF⟩
    go_wp2
    go_ret
    exact ⟨rfl, hF⟩
  · have hp : plainP Lib.validD s.data.toList = false := by unfold plainP; rw [hlen, decide_eq_false h, Bool.false_and]
    rw [hp]
    have h1 : ¬ (s.size : Int) ≤ 256 := by omega
    clear hp
    go_enter Tryz.func73, Tryz.ntmps73
    go_wp2
    go_ret
    exact ⟨rfl, Fr.refl _ _⟩
theorem empty_iff (s : ByteArray) : s.toList.isEmpty = decide (s.data.toList = []) := by
  rw [ByteArray.toList_eq]
  cases s.data.toList <;> rfl
set_option maxRecDepth 100000 in
theorem value_any (s : ByteArray) (w : World) (hG : GV w) : Calls Tryz.prog 54 #[.string s] w fun e w' => e = .returned (.bool (valueP Lib.validD s.data.toList)) ∧ Fr [] w w' := by
  have he := empty_iff s
  by_cases h : s.data.toList = []
  · have hp : valueP Lib.validD s.data.toList = false := by unfold valueP; rw [h]; rfl
    rw [hp]
    rw [decide_eq_true h] at he
    clear hp h
    go_enter Tryz.func54, Tryz.ntmps54
    go_wp2
    go_ret
    exact ⟨rfl, Fr.refl _ _⟩
  · have hv := plain_any s w hG
    have hp : valueP Lib.validD s.data.toList = plainP Lib.validD s.data.toList := by unfold valueP; rw [decide_eq_true h, Bool.true_and]
    rw [hp]
    obtain ⟨b, hb⟩ : ∃ b, plainP Lib.validD s.data.toList = b := ⟨_, rfl⟩
    rw [hb] at hv ⊢
    rw [decide_eq_false h] at he
    clear hp hb h
    go_enter Tryz.func54, Tryz.ntmps54
    go_wp2_with fail
    refine hv.mono ?_
    rintro e w' ⟨rfl, hF⟩
    go_wp2
    go_ret
    exact ⟨rfl, hF⟩
end Go.Proofs.YtaniaknphjnlkaaGreatDoor
namespace Go.Proofs.YtaniaknphjnlkaaGreatDoor
open Go.RowKit Go.Bl Go.Lq

theorem byte_at (s : ByteArray) (k : Nat) (h : k < s.size) : s.data.toList[k]'(by rw [bytes_len]; exact h) = s[k] := by cases s; rfl
def KeyLoop (s : ByteArray) (w : World) (iv : Value) (wr : World) : Prop := ∃ k, iv = .int .i64 ((k : Nat) : Int) ∧ k ≤ s.size ∧ wr = w ∧ (s.data.toList.take k).all isTail = true
theorem keyP_cases (s : ByteArray) : keyP s.data.toList = (decide (0 < s.size) && decide (s.size ≤ 64) && ((s.data.toList.head?.map isHead).getD false) && s.data.toList.all isTail) := by
  have hl := bytes_len s
  cases hs : s.data.toList with
  | nil => rw [hs] at hl; simp [keyP]
  | cons c cs =>
    rw [hs] at hl
    simp only [List.length_cons] at hl
    unfold keyP
    rw [decide_eq_true (show 0 < s.size by omega)]
    simp only [List.length_cons, hl, Bool.true_and, List.head?_cons, Option.map_some, Option.getD_some, List.all_cons]
    cases hh : isHead c with
    | false => simp
    | true => simp [isTail, hh]

set_option maxRecDepth 100000 in
set_option maxHeartbeats 400000 in
theorem key_anyA (s : ByteArray) (w : World) : Calls Tryz.prog 72 #[.string s] w fun e w' => e = .returned (.bool (keyP s.data.toList)) ∧ w' = w := by
  have he := empty_iff s
  have hl := bytes_len s
  rw [keyP_cases]
  by_cases h0 : s.data.toList = []
  · have hz : s.size = 0 := by rw [← hl, h0]; rfl
    rw [decide_eq_true h0] at he
    rw [decide_eq_false (show ¬ 0 < s.size by omega)]
    clear h0 hz
    go_enter Tryz.func72, Tryz.ntmps72
    go_wp2
    go_ret
    exact ⟨rfl, rfl⟩
  · have hp : 0 < s.size := by
      have : s.data.toList.length ≠ 0 := fun e => h0 (List.eq_nil_of_length_eq_zero e)
      omega
    rw [decide_eq_false h0] at he
    rw [decide_eq_true hp, Bool.true_and]
    by_cases h64 : s.size ≤ 64
    · rw [decide_eq_true h64, Bool.true_and]
      have g1 : ¬ (s.size : Int) > 64 := by omega
      have g2 : (0 : Int) ≤ 0 ∧ (0 : Int) < (s.size : Int) := by omega
      obtain ⟨c, hc⟩ : ∃ c, s[0]'hp = c := ⟨_, rfl⟩
      have hh0 : s.data.toList.head? = some c := by
        rw [List.head?_eq_getElem?, List.getElem?_eq_getElem (by omega), byte_at s 0 hp, hc]
      have hd := head_any c w
      rw [hh0]
      simp only [Option.map_some, Option.getD_some]
      obtain ⟨b, hb⟩ : ∃ b, isHead c = b := ⟨_, rfl⟩
      rw [hb] at hd ⊢
      have HL := Lib.hid hl
      clear hb hh0 h0 hl
      cases b with
      | false =>
        go_enter Tryz.func72, Tryz.ntmps72
        go_wp2_with fail
        refine hd.mono ?_
        rintro e w' ⟨rfl, rfl⟩
        go_wp2
        go_ret
        exact ⟨rfl, rfl⟩
      | true =>
        rw [Bool.true_and]
        obtain ⟨ans, hans⟩ : ∃ ans, s.data.toList.all isTail = ans := ⟨_, rfl⟩
        rw [hans]
        have HANS := Lib.hid hans
        clear hans
        go_enter Tryz.func72, Tryz.ntmps72
        go_wp2_with fail
        refine hd.mono ?_
        rintro e w' ⟨rfl, hw⟩
        obtain rfl := hw.symm
        go_wp2_with fail
        go_loopw [19] (fun iv wr => KeyLoop s w iv wr) (fun iv _ => s.size - (intOf iv).toNat)
        case atStart => exact ⟨0, rfl, Nat.zero_le _, rfl, rfl⟩
        case round =>
          obtain ⟨k, rfl, hk, rfl, hall⟩ := hrel
          by_cases hk2 : k < s.size
          · have g3 : (k : Int) < (s.size : Int) := by omega
            have g4 : (0 : Int) ≤ (k : Int) ∧ (k : Int) < (s.size : Int) := by omega
            obtain ⟨d, hd2⟩ : ∃ d, s[k] = d := ⟨_, rfl⟩
            have htl := tail_any d wr
            have hda : s.data.toList[k]'(by rw [HL.out]; exact hk2) = d := by rw [byte_at s k hk2, hd2]
            have HA := Lib.hid (And.intro hall hda)
            have hkk : k + 1 ≤ 100000 := by omega
            clear hall hda
            have hwk : True → wrap64 ((k : Int) + 1) = (k : Int) + 1 := fun _ => wrap_sum (x := k) (c := 1) hkk
            obtain ⟨bt, hbt⟩ : ∃ bt, isTail d = bt := ⟨_, rfl⟩
            rw [hbt] at htl
            have HBT := Lib.hid hbt
            clear hbt
            go_wp2_with fail
            refine htl.mono ?_
            rintro e w' ⟨rfl, hw⟩
            obtain rfl := hw.symm
            cases bt with
            | false =>
              go_wp2_with fail
              go_ret
              refine ⟨?_, rfl⟩
              have : s.data.toList.all isTail = false := by
                rw [List.all_eq_false]
                exact ⟨d, by rw [← HA.out.2]; exact List.getElem_mem _, by rw [HBT.out]; simp⟩
              rw [← HANS.out, this]
              rfl
            | true =>
              go_wp2_with fail
              refine ⟨⟨k + 1, rfl, hk2, rfl, ?_⟩, by simp [intOf]; omega⟩
              rw [List.take_add_one, List.getElem?_eq_getElem (by rw [HL.out]; exact hk2), HA.out.2, List.all_append, HA.out.1]
              simp [HBT.out]
          · obtain rfl : k = s.size := by omega
            have g3 : ¬ (s.size : Int) < (s.size : Int) := by omega
            rw [List.take_of_length_le (by rw [HL.out]; exact Nat.le_refl _)] at hall
            have HA := Lib.hid hall
            clear hall
            go_wp2_with fail
            go_ret
            refine ⟨?_, rfl⟩
            rw [← HANS.out, HA.out]
            rfl
    · rw [decide_eq_false h64]
      have g1 : (s.size : Int) > 64 := by omega
      go_enter Tryz.func72, Tryz.ntmps72
      go_wp2
      go_ret
      exact ⟨rfl, rfl⟩
end Go.Proofs.YtaniaknphjnlkaaGreatDoor
