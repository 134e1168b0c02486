/- Right: can a query be? -/
import Derived.Test.YtdhmloejgoacaaaGreatDoorLqText
import Derived.Test.YtdhmloejgoacaaaGreatDoorMw03
import Derived.Test.YtdhmloejgoacaaaGreatDoorShelfVal
import Derived.Test.YtdhmloejgoacaaaGreatDoorLqUtf8P
import Derived.Deep.CutBlock
set_option linter.unusedVariables false
set_option linter.unusedSimpArgs false
namespace Go.Proofs.YtdhmloejgoacaaaGreatDoor
open Go.RowKit Go.Bl Go.Lq

theorem valid_any (s : ByteArray) (w : World) (hs : s.size ≤ 1024) (hG : GV w) : Calls Tryz.prog 130 #[.string s] w fun e w' => e = .returned (.bool (Lib.validD s.data.toList)) ∧ Fr [] w w' :=
  (Any.utf8_ValidString Tryz.lays196 s w (by omega) hG.utf).mono fun _ _ h => ⟨h.1, fr_newR h.2 []⟩

set_option maxRecDepth 100000 in
theorem plain_any (s : ByteArray) (w : World) (hG : GV w) : Calls Tryz.prog 109 #[.string s] w fun e w' => e = .returned (.bool (plainP Lib.validD s.data.toList)) ∧ Fr [] w w' := by
  have hlen := bytes_len s
  by_cases h : s.size ≤ 256
  · have hv := valid_any s w (by omega) hG
    have hp : plainP Lib.validD s.data.toList = Lib.validD s.data.toList := by unfold plainP; rw [hlen, decide_eq_true h, Bool.true_and]
    rw [hp]
    obtain ⟨b, hb⟩ : ∃ b, Lib.validD s.data.toList = b := ⟨_, rfl⟩
    rw [hb] at hv ⊢
    have h1 : (s.size : Int) ≤ 256 := by omega
    clear hp hb
    go_enter Tryz.func109, Tryz.ntmps109
    go_wp2_with fail
    refine hv.mono ?_
    rintro e w' ⟨rfl, hF⟩
    go_wp2
    go_ret
    exact ⟨rfl, hF⟩
  · have hp : plainP Lib.validD s.data.toList = false := by unfold plainP; rw [hlen, decide_eq_false h, Bool.false_and]
    rw [hp]
    have h1 : ¬ (s.size : Int) ≤ 256 := by omega
    clear hp
    go_enter Tryz.func109, Tryz.ntmps109
    go_wp2
    go_ret
    exact ⟨rfl, Fr.refl _ _⟩
theorem empty_iff (s : ByteArray) : s.toList.isEmpty = decide (s.data.toList = []) := by
  rw [ByteArray.toList_eq]
  cases s.data.toList <;> rfl
set_option maxRecDepth 100000 in
theorem value_any (s : ByteArray) (w : World) (hG : GV w) : Calls Tryz.prog 85 #[.string s] w fun e w' => e = .returned (.bool (valueP Lib.validD s.data.toList)) ∧ Fr [] w w' := by
  have he := empty_iff s
  by_cases h : s.data.toList = []
  · have hp : valueP Lib.validD s.data.toList = false := by unfold valueP; rw [h]; rfl
    rw [hp]
    rw [decide_eq_true h] at he
    clear hp h
    go_enter Tryz.func85, Tryz.ntmps85
    go_wp2
    go_ret
    exact ⟨rfl, Fr.refl _ _⟩
  · have hv := plain_any s w hG
    have hp : valueP Lib.validD s.data.toList = plainP Lib.validD s.data.toList := by unfold valueP; rw [decide_eq_true h, Bool.true_and]
    rw [hp]
    obtain ⟨b, hb⟩ : ∃ b, plainP Lib.validD s.data.toList = b := ⟨_, rfl⟩
    rw [hb] at hv ⊢
    rw [decide_eq_false h] at he
    clear hp hb h
    go_enter Tryz.func85, Tryz.ntmps85
    go_wp2_with fail
    refine hv.mono ?_
    rintro e w' ⟨rfl, hF⟩
    go_wp2
    go_ret
    exact ⟨rfl, hF⟩
end Go.Proofs.YtdhmloejgoacaaaGreatDoor
namespace Go.Proofs.YtdhmloejgoacaaaGreatDoor
open Go.RowKit Go.Bl Go.Lq

theorem byte_at (s : ByteArray) (k : Nat) (h : k < s.size) : s.data.toList[k]'(by rw [bytes_len]; exact h) = s[k] := by cases s; rfl
def KeyLoop (s : ByteArray) (w : World) (iv : Value) (wr : World) : Prop := ∃ k, iv = .int .i64 ((k : Nat) : Int) ∧ k ≤ s.size ∧ wr = w ∧ (s.data.toList.take k).all isTail = true
theorem keyP_cases (s : ByteArray) : keyP s.data.toList = (decide (0 < s.size) && decide (s.size ≤ 64) && ((s.data.toList.head?.map isHead).getD false) && s.data.toList.all isTail) := by
  have hl := bytes_len s
  cases hs : s.data.toList with
  | nil => rw [hs] at hl; simp [keyP]
  | cons c cs =>
    rw [hs] at hl
    simp only [List.length_cons] at hl
    unfold keyP
    rw [decide_eq_true (show 0 < s.size by omega)]
    simp only [List.length_cons, hl, Bool.true_and, List.head?_cons, Option.map_some, Option.getD_some, List.all_cons]
    cases hh : isHead c with
    | false => simp
    | true => simp [isTail, hh]

set_option maxRecDepth 100000 in
set_option maxHeartbeats 400000 in
theorem key_anyA (s : ByteArray) (w : World) : Calls Tryz.prog 108 #[.string s] w fun e w' => e = .returned (.bool (keyP s.data.toList)) ∧ w' = w := by
  have he := empty_iff s
  have hl := bytes_len s
  rw [keyP_cases]
  by_cases h0 : s.data.toList = []
  · have hz : s.size = 0 := by rw [← hl, h0]; rfl
    rw [decide_eq_true h0] at he
    rw [decide_eq_false (show ¬ 0 < s.size by omega)]
    clear h0 hz
    go_enter Tryz.func108, Tryz.ntmps108
    go_wp2
    go_ret
    exact ⟨rfl, rfl⟩
  · have hp : 0 < s.size := by
      have : s.data.toList.length ≠ 0 := fun e => h0 (List.eq_nil_of_length_eq_zero e)
      omega
    rw [decide_eq_false h0] at he
    rw [decide_eq_true hp, Bool.true_and]
    by_cases h64 : s.size ≤ 64
    · rw [decide_eq_true h64, Bool.true_and]
      have g1 : ¬ (s.size : Int) > 64 := by omega
      have g2 : (0 : Int) ≤ 0 ∧ (0 : Int) < (s.size : Int) := by omega
      obtain ⟨c, hc⟩ : ∃ c, s[0]'hp = c := ⟨_, rfl⟩
      have hh0 : s.data.toList.head? = some c := by
        rw [List.head?_eq_getElem?, List.getElem?_eq_getElem (by omega), byte_at s 0 hp, hc]
      have hd := head_any c w
      rw [hh0]
      simp only [Option.map_some, Option.getD_some]
      obtain ⟨b, hb⟩ : ∃ b, isHead c = b := ⟨_, rfl⟩
      rw [hb] at hd ⊢
      have HL := Lib.hid hl
      clear hb hh0 h0 hl
      cases b with
      | false =>
        go_enter Tryz.func108, Tryz.ntmps108
        go_wp2_with fail
        refine hd.mono ?_
        rintro e w' ⟨rfl, rfl⟩
        go_wp2
        go_ret
        exact ⟨rfl, rfl⟩
      | true =>
        rw [Bool.true_and]
        obtain ⟨ans, hans⟩ : ∃ ans, s.data.toList.all isTail = ans := ⟨_, rfl⟩
        rw [hans]
        have HANS := Lib.hid hans
        clear hans
        go_enter Tryz.func108, Tryz.ntmps108
        go_wp2_with fail
        refine hd.mono ?_
        rintro e w' ⟨rfl, hw⟩
        obtain rfl := hw.symm
        go_wp2_with fail
        go_loopw [19] (fun iv wr => KeyLoop s w iv wr) (fun iv _ => s.size - (intOf iv).toNat)
        case atStart => exact ⟨0, rfl, Nat.zero_le _, rfl, rfl⟩
        case round =>
          obtain ⟨k, rfl, hk, rfl, hall⟩ := hrel
          by_cases hk2 : k < s.size
          · have g3 : (k : Int) < (s.size : Int) := by omega
            have g4 : (0 : Int) ≤ (k : Int) ∧ (k : Int) < (s.size : Int) := by omega
            obtain ⟨d, hd2⟩ : ∃ d, s[k] = d := ⟨_, rfl⟩
            have htl := tail_any d wr
            have hda : s.data.toList[k]'(by rw [HL.out]; exact hk2) = d := by rw [byte_at s k hk2, hd2]
            have HA := Lib.hid (And.intro hall hda)
            have hkk : k + 1 ≤ 100000 := by omega
            clear hall hda
            have hwk : True → wrap64 ((k : Int) + 1) = (k : Int) + 1 := fun _ => wrap_sum (x := k) (c := 1) hkk
            obtain ⟨bt, hbt⟩ : ∃ bt, isTail d = bt := ⟨_, rfl⟩
            rw [hbt] at htl
            have HBT := Lib.hid hbt
            clear hbt
            go_wp2_with fail
            refine htl.mono ?_
            rintro e w' ⟨rfl, hw⟩
            obtain rfl := hw.symm
            cases bt with
            | false =>
              go_wp2_with fail
              go_ret
              refine ⟨?_, rfl⟩
              have : s.data.toList.all isTail = false := by
                rw [List.all_eq_false]
                exact ⟨d, by rw [← HA.out.2]; exact List.getElem_mem _, by rw [HBT.out]; simp⟩
              rw [← HANS.out, this]
              rfl
            | true =>
              go_wp2_with fail
              refine ⟨⟨k + 1, rfl, hk2, rfl, ?_⟩, by simp [intOf]; omega⟩
              rw [List.take_add_one, List.getElem?_eq_getElem (by rw [HL.out]; exact hk2), HA.out.2, List.all_append, HA.out.1]
              simp [HBT.out]
          · obtain rfl : k = s.size := by omega
            have g3 : ¬ (s.size : Int) < (s.size : Int) := by omega
            rw [List.take_of_length_le (by rw [HL.out]; exact Nat.le_refl _)] at hall
            have HA := Lib.hid hall
            clear hall
            go_wp2_with fail
            go_ret
            refine ⟨?_, rfl⟩
            rw [← HANS.out, HA.out]
            rfl
    · rw [decide_eq_false h64]
      have g1 : (s.size : Int) > 64 := by omega
      go_enter Tryz.func108, Tryz.ntmps108
      go_wp2
      go_ret
      exact ⟨rfl, rfl⟩
end Go.Proofs.YtdhmloejgoacaaaGreatDoor
namespace Go.Proofs.YtdhmloejgoacaaaGreatDoor
open Go.RowKit Go.Bl Go.Lq

theorem drewN_fr' (w : World) (n : Nat) : Fr [] w (w.drewN n) := (Fr.refl _ _).drewN _
def UtRel (s : ByteArray) (w : World) (iv : Value) (wr : World) : Prop :=
  ∃ k n, iv = .int .i64 ((k : Nat) : Int) ∧ k ≤ s.size ∧ wr = w.drewN n ∧ Lib.validD s.data.toList = Lib.validD (s.data.toList.drop k)
/-- Behind the switch: how many, and between which. -/
def UtCut (W : World) (c : Nat) (s5 s6 s7 : Value) (wx : World) : Prop :=
  ∃ n lo hi : Nat, s5 = .int .i64 n ∧ s6 = .int .u8 lo ∧ s7 = .int .u8 hi ∧ (∃ d, wx = W.drewN d) ∧ lo < 256 ∧ hi < 256 ∧
    ((c < 128 ∧ n = 0) ∨ (128 ≤ c ∧ leadN c = n ∧ n ≠ 0 ∧ n ≤ 3 ∧ lo = leadLo c ∧ hi = leadHi c))
def UtIn (l : Bs) (c n : Nat) (W : World) (jv lov hiv : Value) (wr : World) : Prop :=
  ∃ j d, ∃ lo hi : Nat, jv = .int .i64 ((j : Nat) : Int) ∧ 1 ≤ j ∧ j ≤ n + 1 ∧ wr = W.drewN d ∧ lov = .int .u8 lo ∧ hiv = .int .u8 hi ∧ lo < 256 ∧ hi < 256 ∧
    (n ≠ 0 → lo = (if j = 1 then leadLo c else 128) ∧ hi = (if j = 1 then leadHi c else 191)) ∧ (∀ i, 1 ≤ i → i < j → okAt l c i)
theorem drop_getD (s : ByteArray) (k j : Nat) (h : k + j < s.size) : (s.data.toList.drop k).getD j 0 = s[k + j] := by
  rw [List.getD_eq_getElem?_getD, List.getElem?_drop, List.getElem?_eq_getElem (by rw [bytes_len]; exact h), Option.getD_some]
  exact byte_at s (k + j) h
set_option maxRecDepth 100000 in
set_option maxHeartbeats 800000 in
theorem utf8R_any (s : ByteArray) (hs : s.size ≤ 1024) (w : World) : Calls Tryz.prog 131 #[.string s] w fun e w' => e = .returned (.bool (Lib.validD s.data.toList)) ∧ Fr [] w w' := by
  obtain ⟨ans, hans⟩ : ∃ ans, Lib.validD s.data.toList = ans := ⟨_, rfl⟩
  rw [hans]
  have HANS := Lib.hid hans
  clear hans
  go_enter Tryz.func131, Tryz.ntmps131
  go_wp2_with fail
  go_loopw [3] (fun iv wr => UtRel s w iv wr) (fun iv _ => s.size - (intOf iv).toNat)
  case atStart => exact ⟨0, 0, rfl, Nat.zero_le _, rfl, rfl⟩
  case round =>
    obtain ⟨k, nd, rfl, hk, rfl, hv⟩ := hrel
    by_cases hk2 : k < s.size
    · have g3 : (k : Int) < (s.size : Int) := by omega
      have g4 : (0 : Int) ≤ (k : Int) ∧ (k : Int) < (s.size : Int) := by omega
      obtain ⟨c, hsc⟩ : ∃ c, s[k] = c := ⟨_, rfl⟩
      obtain ⟨l, hl⟩ : ∃ l, s.data.toList.drop k = l := ⟨_, rfl⟩
      have hll : l.length = s.size - k := by rw [← hl, List.length_drop, bytes_len]
      have hne : l ≠ [] := fun e => by rw [e] at hll; simp only [List.length_nil] at hll; omega
      have hc0 : c.toNat = (l.getD 0 0).toNat := by rw [← hl, drop_getD s k 0 (by omega)]; simp [hsc]
      rw [hl] at hv
      have HV := Lib.hid (And.intro hv (And.intro hl (And.intro hll (And.intro hne hc0))))
      have hcl := UInt8.toNat_lt c
      clear hv hl hll hne hc0
      go_upto_block 2 with fail
      go_cut [5, 6, 7] (fun s5 s6 s7 wx => UtCut (w.drewN nd) c.toNat s5 s6 s7 wx)
      case first =>
        obtain ⟨m, hm⟩ : ∃ m, c.toNat = m := ⟨_, rfl⟩
        rw [hm] at hcl
        have hcl2 : (0 ≤ m ∧ m ≤ 127) ∨ (128 ≤ m ∧ m ≤ 193) ∨ (194 ≤ m ∧ m ≤ 223) ∨ (224 ≤ m ∧ m ≤ 224) ∨ (225 ≤ m ∧ m ≤ 236) ∨ (237 ≤ m ∧ m ≤ 237) ∨ (238 ≤ m ∧ m ≤ 239) ∨ (240 ≤ m ∧ m ≤ 240) ∨ (241 ≤ m ∧ m ≤ 243) ∨ (244 ≤ m ∧ m ≤ 244) ∨ (245 ≤ m ∧ m ≤ 255) := by omega
        rcases hcl2 with hc | hc | hc | hc | hc | hc | hc | hc | hc | hc | hc
        · have f0 : (c.toNat : Int) < 128 := by omega
          have hcut : UtCut (w.drewN nd) c.toNat (.int .i64 ((0 : Nat) : Int)) (.int .u8 ((128 : Nat) : Int)) (.int .u8 ((191 : Nat) : Int)) (w.drewN nd) := ⟨0, 128, 191, rfl, rfl, rfl, ⟨0, rfl⟩, by omega, by omega, .inl ⟨by omega, rfl⟩⟩
          have HCUT := Lib.hid hcut
          clear hcut hc hm
          go_wp2_with fail
          go_meet
          exact HCUT.out
        · have f0 : ¬ (c.toNat : Int) < 128 := by omega
          have f1 : ¬ (c.toNat : Int) ≥ 194 := by omega
          have f2 : ¬ (c.toNat : Int) ≥ 224 := by omega
          have f3 : ¬ (c.toNat : Int) ≥ 240 := by omega
          have hbad : leadN c.toNat = 0 := by rw [hm]; unfold leadN; (repeat' split) <;> omega
          have h128 : 128 ≤ c.toNat := by omega
          have HB := Lib.hid (And.intro hbad h128)
          clear hbad hc hm
          go_wp2_with fail
          go_ret
          refine ⟨?_, drewN_fr' _ _⟩
          rw [← HANS.out, HV.out.1, utf_bad HV.out.2.2.2.2 HV.out.2.2.2.1 HB.out.2 HB.out.1]
          rfl
        · have f0 : ¬ (c.toNat : Int) < 128 := by omega
          have f1 : (c.toNat : Int) ≥ 194 := by omega
          have f2 : (c.toNat : Int) ≤ 223 := by omega
          have hcut : ∀ d, UtCut (w.drewN nd) c.toNat (.int .i64 ((1 : Nat) : Int)) (.int .u8 ((128 : Nat) : Int)) (.int .u8 ((191 : Nat) : Int)) ((w.drewN nd).drewN d) := fun d => ⟨1, 128, 191, rfl, rfl, rfl, ⟨d, rfl⟩, by omega, by omega, .inr ⟨by omega, by rw [hm]; unfold leadN; (repeat' split) <;> omega, by omega, by omega, by rw [hm]; unfold leadLo; (repeat' split) <;> omega, by rw [hm]; unfold leadHi; (repeat' split) <;> omega⟩⟩
          have HCUT := Lib.hid hcut
          clear hcut hc hm
          go_wp2_with fail
          go_meet
          exact HCUT.out 0
        · have f0 : ¬ (c.toNat : Int) < 128 := by omega
          have f1 : (c.toNat : Int) ≥ 194 := by omega
          have f2 : ¬ (c.toNat : Int) ≤ 223 := by omega
          have f3 : (c.toNat : Int) ≥ 224 := by omega
          have f4 : (c.toNat : Int) ≤ 239 := by omega
          have e224 : ((c.toNat : Int) == 224) = true := by simp; omega
          have e237 : ((c.toNat : Int) == 237) = false := by simp; omega
          have hcut : ∀ d, UtCut (w.drewN nd) c.toNat (.int .i64 ((2 : Nat) : Int)) (.int .u8 ((160 : Nat) : Int)) (.int .u8 ((191 : Nat) : Int)) ((w.drewN nd).drewN d) := fun d => ⟨2, 160, 191, rfl, rfl, rfl, ⟨d, rfl⟩, by omega, by omega, .inr ⟨by omega, by rw [hm]; unfold leadN; (repeat' split) <;> omega, by omega, by omega, by rw [hm]; unfold leadLo; (repeat' split) <;> omega, by rw [hm]; unfold leadHi; (repeat' split) <;> omega⟩⟩
          have HCUT := Lib.hid hcut
          clear hcut hc hm
          go_wp2_with fail
          go_meet
          exact HCUT.out 0
        · have f0 : ¬ (c.toNat : Int) < 128 := by omega
          have f1 : (c.toNat : Int) ≥ 194 := by omega
          have f2 : ¬ (c.toNat : Int) ≤ 223 := by omega
          have f3 : (c.toNat : Int) ≥ 224 := by omega
          have f4 : (c.toNat : Int) ≤ 239 := by omega
          have e224 : ((c.toNat : Int) == 224) = false := by simp; omega
          have e237 : ((c.toNat : Int) == 237) = false := by simp; omega
          have hcut : ∀ d, UtCut (w.drewN nd) c.toNat (.int .i64 ((2 : Nat) : Int)) (.int .u8 ((128 : Nat) : Int)) (.int .u8 ((191 : Nat) : Int)) ((w.drewN nd).drewN d) := fun d => ⟨2, 128, 191, rfl, rfl, rfl, ⟨d, rfl⟩, by omega, by omega, .inr ⟨by omega, by rw [hm]; unfold leadN; (repeat' split) <;> omega, by omega, by omega, by rw [hm]; unfold leadLo; (repeat' split) <;> omega, by rw [hm]; unfold leadHi; (repeat' split) <;> omega⟩⟩
          have HCUT := Lib.hid hcut
          clear hcut hc hm
          go_wp2_with fail
          go_meet
          exact HCUT.out 0
        · have f0 : ¬ (c.toNat : Int) < 128 := by omega
          have f1 : (c.toNat : Int) ≥ 194 := by omega
          have f2 : ¬ (c.toNat : Int) ≤ 223 := by omega
          have f3 : (c.toNat : Int) ≥ 224 := by omega
          have f4 : (c.toNat : Int) ≤ 239 := by omega
          have e224 : ((c.toNat : Int) == 224) = false := by simp; omega
          have e237 : ((c.toNat : Int) == 237) = true := by simp; omega
          have hcut : ∀ d, UtCut (w.drewN nd) c.toNat (.int .i64 ((2 : Nat) : Int)) (.int .u8 ((128 : Nat) : Int)) (.int .u8 ((159 : Nat) : Int)) ((w.drewN nd).drewN d) := fun d => ⟨2, 128, 159, rfl, rfl, rfl, ⟨d, rfl⟩, by omega, by omega, .inr ⟨by omega, by rw [hm]; unfold leadN; (repeat' split) <;> omega, by omega, by omega, by rw [hm]; unfold leadLo; (repeat' split) <;> omega, by rw [hm]; unfold leadHi; (repeat' split) <;> omega⟩⟩
          have HCUT := Lib.hid hcut
          clear hcut hc hm
          go_wp2_with fail
          go_meet
          exact HCUT.out 0
        · have f0 : ¬ (c.toNat : Int) < 128 := by omega
          have f1 : (c.toNat : Int) ≥ 194 := by omega
          have f2 : ¬ (c.toNat : Int) ≤ 223 := by omega
          have f3 : (c.toNat : Int) ≥ 224 := by omega
          have f4 : (c.toNat : Int) ≤ 239 := by omega
          have e224 : ((c.toNat : Int) == 224) = false := by simp; omega
          have e237 : ((c.toNat : Int) == 237) = false := by simp; omega
          have hcut : ∀ d, UtCut (w.drewN nd) c.toNat (.int .i64 ((2 : Nat) : Int)) (.int .u8 ((128 : Nat) : Int)) (.int .u8 ((191 : Nat) : Int)) ((w.drewN nd).drewN d) := fun d => ⟨2, 128, 191, rfl, rfl, rfl, ⟨d, rfl⟩, by omega, by omega, .inr ⟨by omega, by rw [hm]; unfold leadN; (repeat' split) <;> omega, by omega, by omega, by rw [hm]; unfold leadLo; (repeat' split) <;> omega, by rw [hm]; unfold leadHi; (repeat' split) <;> omega⟩⟩
          have HCUT := Lib.hid hcut
          clear hcut hc hm
          go_wp2_with fail
          go_meet
          exact HCUT.out 0
        · have f0 : ¬ (c.toNat : Int) < 128 := by omega
          have f1 : (c.toNat : Int) ≥ 194 := by omega
          have f2 : ¬ (c.toNat : Int) ≤ 223 := by omega
          have f3 : (c.toNat : Int) ≥ 224 := by omega
          have f4 : ¬ (c.toNat : Int) ≤ 239 := by omega
          have f5 : (c.toNat : Int) ≥ 240 := by omega
          have f6 : (c.toNat : Int) ≤ 244 := by omega
          have e240 : ((c.toNat : Int) == 240) = true := by simp; omega
          have e244 : ((c.toNat : Int) == 244) = false := by simp; omega
          have hcut : ∀ d, UtCut (w.drewN nd) c.toNat (.int .i64 ((3 : Nat) : Int)) (.int .u8 ((144 : Nat) : Int)) (.int .u8 ((191 : Nat) : Int)) ((w.drewN nd).drewN d) := fun d => ⟨3, 144, 191, rfl, rfl, rfl, ⟨d, rfl⟩, by omega, by omega, .inr ⟨by omega, by rw [hm]; unfold leadN; (repeat' split) <;> omega, by omega, by omega, by rw [hm]; unfold leadLo; (repeat' split) <;> omega, by rw [hm]; unfold leadHi; (repeat' split) <;> omega⟩⟩
          have HCUT := Lib.hid hcut
          clear hcut hc hm
          go_wp2_with fail
          go_meet
          exact HCUT.out 0
        · have f0 : ¬ (c.toNat : Int) < 128 := by omega
          have f1 : (c.toNat : Int) ≥ 194 := by omega
          have f2 : ¬ (c.toNat : Int) ≤ 223 := by omega
          have f3 : (c.toNat : Int) ≥ 224 := by omega
          have f4 : ¬ (c.toNat : Int) ≤ 239 := by omega
          have f5 : (c.toNat : Int) ≥ 240 := by omega
          have f6 : (c.toNat : Int) ≤ 244 := by omega
          have e240 : ((c.toNat : Int) == 240) = false := by simp; omega
          have e244 : ((c.toNat : Int) == 244) = false := by simp; omega
          have hcut : ∀ d, UtCut (w.drewN nd) c.toNat (.int .i64 ((3 : Nat) : Int)) (.int .u8 ((128 : Nat) : Int)) (.int .u8 ((191 : Nat) : Int)) ((w.drewN nd).drewN d) := fun d => ⟨3, 128, 191, rfl, rfl, rfl, ⟨d, rfl⟩, by omega, by omega, .inr ⟨by omega, by rw [hm]; unfold leadN; (repeat' split) <;> omega, by omega, by omega, by rw [hm]; unfold leadLo; (repeat' split) <;> omega, by rw [hm]; unfold leadHi; (repeat' split) <;> omega⟩⟩
          have HCUT := Lib.hid hcut
          clear hcut hc hm
          go_wp2_with fail
          go_meet
          exact HCUT.out 0
        · have f0 : ¬ (c.toNat : Int) < 128 := by omega
          have f1 : (c.toNat : Int) ≥ 194 := by omega
          have f2 : ¬ (c.toNat : Int) ≤ 223 := by omega
          have f3 : (c.toNat : Int) ≥ 224 := by omega
          have f4 : ¬ (c.toNat : Int) ≤ 239 := by omega
          have f5 : (c.toNat : Int) ≥ 240 := by omega
          have f6 : (c.toNat : Int) ≤ 244 := by omega
          have e240 : ((c.toNat : Int) == 240) = false := by simp; omega
          have e244 : ((c.toNat : Int) == 244) = true := by simp; omega
          have hcut : ∀ d, UtCut (w.drewN nd) c.toNat (.int .i64 ((3 : Nat) : Int)) (.int .u8 ((128 : Nat) : Int)) (.int .u8 ((143 : Nat) : Int)) ((w.drewN nd).drewN d) := fun d => ⟨3, 128, 143, rfl, rfl, rfl, ⟨d, rfl⟩, by omega, by omega, .inr ⟨by omega, by rw [hm]; unfold leadN; (repeat' split) <;> omega, by omega, by omega, by rw [hm]; unfold leadLo; (repeat' split) <;> omega, by rw [hm]; unfold leadHi; (repeat' split) <;> omega⟩⟩
          have HCUT := Lib.hid hcut
          clear hcut hc hm
          go_wp2_with fail
          go_meet
          exact HCUT.out 0
        · have f0 : ¬ (c.toNat : Int) < 128 := by omega
          have f1 : (c.toNat : Int) ≥ 194 := by omega
          have f2 : ¬ (c.toNat : Int) ≤ 223 := by omega
          have f3 : (c.toNat : Int) ≥ 224 := by omega
          have f4 : ¬ (c.toNat : Int) ≤ 239 := by omega
          have f5 : (c.toNat : Int) ≥ 240 := by omega
          have f6 : ¬ (c.toNat : Int) ≤ 244 := by omega
          have hbad : leadN c.toNat = 0 := by rw [hm]; unfold leadN; (repeat' split) <;> omega
          have h128 : 128 ≤ c.toNat := by omega
          have HB := Lib.hid (And.intro hbad h128)
          clear hbad hc hm
          go_wp2_with fail
          go_ret
          refine ⟨?_, drewN_fr' _ _⟩
          rw [← HANS.out, HV.out.1, utf_bad HV.out.2.2.2.2 HV.out.2.2.2.1 HB.out.2 HB.out.1]
          rfl
      case rest =>
        obtain ⟨nn, lo, hi, rfl, rfl, rfl, ⟨dd, rfl⟩, hlo, hhi, hcs⟩ := hcut
        have hnn : nn ≤ 3 := by rcases hcs with ⟨_, h⟩ | ⟨_, _, _, h, _⟩ <;> omega
        have HCS := Lib.hid hcs
        clear hcs
        by_cases hsh : s.size ≤ k + nn
        · have f0 : (nn : Int) ≥ (s.size : Int) - (k : Int) := by omega
          have HSH := Lib.hid hsh
          clear hsh
          go_wp2_with fail
          go_ret
          refine ⟨?_, drewN_fr' _ _⟩
          have h128 : 128 ≤ c.toNat ∧ leadN c.toNat = nn := by
            have h1 := HSH.out
            rcases HCS.out with ⟨_, h⟩ | ⟨h, h', _⟩
            · omega
            · exact ⟨h, h'⟩
          rw [← HANS.out, HV.out.1, utf_short HV.out.2.2.2.2 HV.out.2.2.2.1 h128.1 (by rw [h128.2, HV.out.2.2.1]; have h1 := HSH.out; omega)]
          rfl
        · have f0 : ¬ (nn : Int) ≥ (s.size : Int) - (k : Int) := by omega
          have hlen : k + nn < s.size := by omega
          clear hsh
          go_wp2_with fail
          go_loopw [8, 6, 7] (fun jv lov hiv wr => UtIn l c.toNat nn w jv lov hiv wr) (fun jv _ _ _ => nn + 1 - (intOf jv).toNat)
          case atStart => exact ⟨1, _, lo, hi, rfl, by omega, by omega, rfl, rfl, rfl, hlo, hhi, fun h => by rcases HCS.out with ⟨_, h'⟩ | ⟨_, _, _, _, h1, h2⟩; (· omega); exact ⟨by rw [if_pos rfl]; exact h1, by rw [if_pos rfl]; exact h2⟩, fun i h1 h2 => by omega⟩
          case round =>
            obtain ⟨j, dj, lo2, hi2, rfl, hj1, hj2, rfl, rfl, rfl, hlo2, hhi2, hlh, hok⟩ := hrel
            have HLH := Lib.hid (And.intro hlh hok)
            clear hlh hok
            by_cases hjn : j ≤ nn
            · have f1 : (j : Int) ≤ (nn : Int) := by omega
              have hp1 : k + j < s.size := by omega
              have f2 : (0 : Int) ≤ (k : Int) + (j : Int) ∧ (k : Int) + (j : Int) < (s.size : Int) := by omega
              obtain ⟨b, hb⟩ : ∃ b, s[k + j] = b := ⟨_, rfl⟩
              have hbl : l.getD j 0 = b := by
                rw [← HV.out.2.1, drop_getD s k j (by omega), ← hb]
              have HP := Lib.hid hbl
              clear hbl
              have hiff : (lo2 ≤ b.toNat ∧ b.toNat ≤ hi2) ↔ okAt l c.toNat j := by
                unfold okAt
                have h1 := HLH.out.1 (by omega)
                rw [HP.out, ← h1.1, ← h1.2]
              have HIFF := Lib.hid hiff
              clear hiff
              have hbad : ¬ okAt l c.toNat j → Lib.validD s.data.toList = false := by
                intro h
                have h128 : 128 ≤ c.toNat ∧ leadN c.toNat = nn := by
                  rcases HCS.out with ⟨_, h⟩ | ⟨h, h', _⟩
                  · omega
                  · exact ⟨h, h'⟩
                rw [HV.out.1, utf_cont HV.out.2.2.2.2 HV.out.2.2.2.1 h128.1 j hj1 (by rw [h128.2]; exact hjn) h]
              have HBAD := Lib.hid hbad
              clear hbad
              by_cases q1 : b.toNat < lo2
              · go_wp2_with fail
                go_ret
                refine ⟨?_, drewN_fr' _ _⟩
                rw [← HANS.out, HBAD.out (fun h => by have := HIFF.out.2 h; omega)]
                rfl
              · by_cases q2 : hi2 < b.toNat
                · go_wp2_with fail
                  go_ret
                  refine ⟨?_, drewN_fr' _ _⟩
                  rw [← HANS.out, HBAD.out (fun h => by have := HIFF.out.2 h; omega)]
                  rfl
                · go_wp2_with fail
                  refine ⟨⟨j + 1, _, 128, 191, rfl, by omega, by omega, rfl, rfl, rfl, by omega, by omega, fun _ => ⟨by rw [if_neg (by omega)], by rw [if_neg (by omega)]⟩, fun i h1 h2 => ?_⟩, by simp [intOf]; omega⟩
                  rcases (by omega : i < j ∨ i = j) with h | h
                  · exact HLH.out.2 i h1 h
                  · subst h
                    exact HIFF.out.1 ⟨by omega, by omega⟩
            · obtain rfl : j = nn + 1 := by omega
              have f1 : ¬ ((nn + 1 : Nat) : Int) ≤ (nn : Int) := by omega
              go_wp2_with fail
              refine ⟨⟨k + nn + 1, _, congrArg (Value.int .i64) (by omega), by omega, rfl, ?_⟩, by simp [intOf]; omega⟩
              have hdr : s.data.toList.drop (k + nn + 1) = l.drop (nn + 1) := by
                rw [← HV.out.2.1, List.drop_drop]
                congr 1
              rw [HV.out.1, hdr]
              rcases HCS.out with ⟨h1, h2⟩ | ⟨h1, h2, h3, _⟩
              · subst h2
                have hl1 := HV.out.2.2.2.1
                have hc0 := HV.out.2.2.2.2
                cases hl : l with
                | nil => exact absurd hl hl1
                | cons y ys =>
                  rw [hl] at hc0
                  have hy : c.toNat = y.toNat := by simpa using hc0
                  rw [Lib.validD_cons y ys (by omega)]
                  rfl
              · rw [← h2]
                exact utf_all HV.out.2.2.2.2 HV.out.2.2.2.1 h1 (by omega) (by rw [HV.out.2.2.1]; omega) (fun i hi1 hi2 => HLH.out.2 i hi1 (by omega))
    · obtain rfl : k = s.size := by omega
      have g3 : ¬ (s.size : Int) < (s.size : Int) := by omega
      rw [List.drop_of_length_le (by rw [bytes_len]; exact Nat.le_refl _), HANS.out] at hv
      have HA := Lib.hid hv
      clear hv
      go_wp2_with fail
      go_ret
      refine ⟨?_, drewN_fr' _ _⟩
      rw [HA.out]
      rfl
end Go.Proofs.YtdhmloejgoacaaaGreatDoor
namespace Go.Proofs.YtdhmloejgoacaaaGreatDoor
open Go.RowKit Go.Bl Go.Lq

def okB (k : Nat) (c : UInt8) : Bool := if k = 0 then isHead c else isTail c
theorem rk_head_of {d : UInt8} (h : (97 ≤ d.toNat ∧ d.toNat ≤ 122) ∨ (65 ≤ d.toNat ∧ d.toNat ≤ 90) ∨ d.toNat = 95) : isHead d = true := by
  revert h; revert d
  have : ∀ n : Fin 256, ((97 ≤ n.val ∧ n.val ≤ 122) ∨ (65 ≤ n.val ∧ n.val ≤ 90) ∨ n.val = 95) → isHead (UInt8.ofNat n.val) = true := by decide +kernel
  intro d h
  have h1 := this ⟨d.toNat, d.toNat_lt⟩ h
  rwa [UInt8.ofNat_toNat] at h1
theorem rk_head_no {d : UInt8} (h : ¬ ((97 ≤ d.toNat ∧ d.toNat ≤ 122) ∨ (65 ≤ d.toNat ∧ d.toNat ≤ 90) ∨ d.toNat = 95)) : isHead d = false := by
  revert h; revert d
  have : ∀ n : Fin 256, ¬ ((97 ≤ n.val ∧ n.val ≤ 122) ∨ (65 ≤ n.val ∧ n.val ≤ 90) ∨ n.val = 95) → isHead (UInt8.ofNat n.val) = false := by decide +kernel
  intro d h
  have h1 := this ⟨d.toNat, d.toNat_lt⟩ h
  rwa [UInt8.ofNat_toNat] at h1
theorem rk_tail_of {d : UInt8} (h : (97 ≤ d.toNat ∧ d.toNat ≤ 122) ∨ (65 ≤ d.toNat ∧ d.toNat ≤ 90) ∨ d.toNat = 95 ∨ (48 ≤ d.toNat ∧ d.toNat ≤ 57) ∨ d.toNat = 46) : isTail d = true := by
  revert h; revert d
  have : ∀ n : Fin 256, ((97 ≤ n.val ∧ n.val ≤ 122) ∨ (65 ≤ n.val ∧ n.val ≤ 90) ∨ n.val = 95 ∨ (48 ≤ n.val ∧ n.val ≤ 57) ∨ n.val = 46) → isTail (UInt8.ofNat n.val) = true := by decide +kernel
  intro d h
  have h1 := this ⟨d.toNat, d.toNat_lt⟩ h
  rwa [UInt8.ofNat_toNat] at h1
theorem rk_tail_no {d : UInt8} (h : ¬ ((97 ≤ d.toNat ∧ d.toNat ≤ 122) ∨ (65 ≤ d.toNat ∧ d.toNat ≤ 90) ∨ d.toNat = 95 ∨ (48 ≤ d.toNat ∧ d.toNat ≤ 57) ∨ d.toNat = 46)) : isTail d = false := by
  revert h; revert d
  have : ∀ n : Fin 256, ¬ ((97 ≤ n.val ∧ n.val ≤ 122) ∨ (65 ≤ n.val ∧ n.val ≤ 90) ∨ n.val = 95 ∨ (48 ≤ n.val ∧ n.val ≤ 57) ∨ n.val = 46) → isTail (UInt8.ofNat n.val) = false := by decide +kernel
  intro d h
  have h1 := this ⟨d.toNat, d.toNat_lt⟩ h
  rwa [UInt8.ofNat_toNat] at h1
theorem okB_no0 {k : Nat} {d : UInt8} (hk : k = 0) (h : ¬ ((97 ≤ d.toNat ∧ d.toNat ≤ 122) ∨ (65 ≤ d.toNat ∧ d.toNat ≤ 90) ∨ d.toNat = 95)) : okB k d = false := by
  unfold okB; rw [if_pos hk]; exact rk_head_no h
theorem okB_no1 {k : Nat} {d : UInt8} (hk : k ≠ 0) (h : ¬ ((97 ≤ d.toNat ∧ d.toNat ≤ 122) ∨ (65 ≤ d.toNat ∧ d.toNat ≤ 90) ∨ d.toNat = 95 ∨ (48 ≤ d.toNat ∧ d.toNat ≤ 57) ∨ d.toNat = 46)) : okB k d = false := by
  unfold okB; rw [if_neg hk]; exact rk_tail_no h
theorem key_step {s : ByteArray} {k : Nat} {d : UInt8} (hk : k < s.size) (hl : s.data.toList.length = s.size) (hall : (s.data.toList.take k).all isTail = true) (hd : s.data.toList[k]'(by rw [hl]; exact hk) = d) (ht : isTail d = true) :
    (s.data.toList.take (k + 1)).all isTail = true := by
  rw [List.take_add_one, List.getElem?_eq_getElem (by rw [hl]; exact hk), hd, List.all_append, hall]
  simp [ht]
theorem key_head {s : ByteArray} {k : Nat} {d : UInt8} (hk : k < s.size) (hl : s.data.toList.length = s.size) (hd : s.data.toList[k]'(by rw [hl]; exact hk) = d)
    (hh : 0 < k → (s.data.toList.head?.map isHead).getD false = true) (hz : k = 0 → isHead d = true) : 0 < k + 1 → (s.data.toList.head?.map isHead).getD false = true := by
  intro _
  rcases Nat.eq_zero_or_pos k with h0 | h0
  · subst h0
    rw [List.head?_eq_getElem?, List.getElem?_eq_getElem (by rw [hl]; exact hk), hd]
    simp [hz rfl]
  · exact hh h0
theorem key_false {s : ByteArray} {k : Nat} {d : UInt8} (hk : k < s.size) (hl : s.data.toList.length = s.size) (hd : s.data.toList[k]'(by rw [hl]; exact hk) = d) (h : okB k d = false) :
    ((s.data.toList.head?.map isHead).getD false && s.data.toList.all isTail) = false := by
  unfold okB at h
  split at h
  · rename_i h0
    subst h0
    rw [List.head?_eq_getElem?, List.getElem?_eq_getElem (by rw [hl]; exact hk), hd]
    simp [h]
  · have : s.data.toList.all isTail = false := by
      rw [List.all_eq_false]
      exact ⟨d, by rw [← hd]; exact List.getElem_mem _, by rw [h]; simp⟩
    rw [this, Bool.and_false]
def KeyRLoop (s : ByteArray) (w : World) (iv : Value) (wr : World) : Prop := ∃ k n, iv = .int .i64 ((k : Nat) : Int) ∧ k ≤ s.size ∧ wr = w.drewN n ∧ (s.data.toList.take k).all isTail = true ∧ (0 < k → (s.data.toList.head?.map isHead).getD false = true)
theorem drewN_fr (w : World) (n : Nat) : Fr [] w (w.drewN n) := (Fr.refl _ _).drewN _
set_option maxRecDepth 100000 in
set_option maxHeartbeats 400000 in
theorem keyR_any (s : ByteArray) (w : World) : Calls Tryz.prog 110 #[.string s] w fun e w' => e = .returned (.bool (keyP s.data.toList)) ∧ Fr [] w w' := by
  have hl := bytes_len s
  rw [keyP_cases]
  by_cases h0 : 0 < s.size
  · rw [decide_eq_true h0, Bool.true_and]
    have g0 : ¬ (s.size : Int) < 1 := by omega
    by_cases h64 : s.size ≤ 64
    · rw [decide_eq_true h64, Bool.true_and]
      have g1 : ¬ (s.size : Int) > 64 := by omega
      obtain ⟨ans, hans⟩ : ∃ ans, ((s.data.toList.head?.map isHead).getD false && s.data.toList.all isTail) = ans := ⟨_, rfl⟩
      rw [hans]
      have HANS := Lib.hid hans
      have HL := Lib.hid hl
      clear hans hl
      go_enter Tryz.func110, Tryz.ntmps110
      go_wp2_with fail
      go_loopw [3] (fun iv wr => KeyRLoop s w iv wr) (fun iv _ => s.size - (intOf iv).toNat)
      case atStart => exact ⟨0, 0, rfl, Nat.zero_le _, rfl, rfl, fun h => absurd h (by omega)⟩
      case round =>
        obtain ⟨k, nd, rfl, hk, rfl, hall, hhd⟩ := hrel
        by_cases hk2 : k < s.size
        · have g3 : (k : Int) < (s.size : Int) := by omega
          have g4 : (0 : Int) ≤ (k : Int) ∧ (k : Int) < (s.size : Int) := by omega
          obtain ⟨d, hd2⟩ : ∃ d, s[k] = d := ⟨_, rfl⟩
          have hda : s.data.toList[k]'(by rw [HL.out]; exact hk2) = d := by rw [byte_at s k hk2, hd2]
          have HA := Lib.hid (And.intro hall (And.intro hda hhd))
          have hkk : k + 1 ≤ 100000 := by omega
          clear hall hda hhd
          have hwk : True → wrap64 ((k : Int) + 1) = (k : Int) + 1 := fun _ => wrap_sum (x := k) (c := 1) hkk
          obtain ⟨n, hn⟩ : ∃ n, d.toNat = n := ⟨_, rfl⟩
          have hn2 : n < 256 := by rw [← hn]; exact UInt8.toNat_lt d
          have hcl : (97 ≤ n ∧ n ≤ 122) ∨ (65 ≤ n ∧ n ≤ 90) ∨ (n = 95) ∨ (n < 65 ∧ k = 0) ∨ (91 ≤ n ∧ n ≤ 96 ∧ n ≠ 95 ∧ k = 0) ∨ (122 < n ∧ k = 0) ∨ (48 ≤ n ∧ n ≤ 57 ∧ k ≠ 0) ∨ (n = 46 ∧ k ≠ 0) ∨ (n < 48 ∧ n ≠ 46 ∧ k ≠ 0) ∨ (58 ≤ n ∧ n ≤ 64 ∧ k ≠ 0) ∨ (91 ≤ n ∧ n ≤ 96 ∧ n ≠ 95 ∧ k ≠ 0) ∨ (122 < n ∧ k ≠ 0) := by omega
          rcases hcl with hc | hc | hc | hc | hc | hc | hc | hc | hc | hc | hc | hc
          · have f0 : (d.toNat : Int) ≥ 97 := by omega
            have f1 : (d.toNat : Int) ≤ 122 := by omega
            have f2 : (d.toNat : Int) ≥ 65 := by omega
            have f3 : ¬ (d.toNat : Int) ≤ 90 := by omega
            have e95 : ((d.toNat : Int) == 95) = false := by simp; omega
            have ht : isTail d = true := rk_tail_of (by omega)
            have hz : k = 0 → isHead d = true := fun h => rk_head_of (by omega)
            have HT := Lib.hid (And.intro ht hz)
            clear hc ht hz hn
            go_wp2_with fail
            exact ⟨⟨k + 1, _, rfl, hk2, rfl, key_step hk2 HL.out HA.out.1 HA.out.2.1 HT.out.1, key_head hk2 HL.out HA.out.2.1 HA.out.2.2 HT.out.2⟩, by simp [intOf]; omega⟩
          · have f0 : ¬ (d.toNat : Int) ≥ 97 := by omega
            have f1 : (d.toNat : Int) ≤ 122 := by omega
            have f2 : (d.toNat : Int) ≥ 65 := by omega
            have f3 : (d.toNat : Int) ≤ 90 := by omega
            have e95 : ((d.toNat : Int) == 95) = false := by simp; omega
            have ht : isTail d = true := rk_tail_of (by omega)
            have hz : k = 0 → isHead d = true := fun h => rk_head_of (by omega)
            have HT := Lib.hid (And.intro ht hz)
            clear hc ht hz hn
            go_wp2_with fail
            exact ⟨⟨k + 1, _, rfl, hk2, rfl, key_step hk2 HL.out HA.out.1 HA.out.2.1 HT.out.1, key_head hk2 HL.out HA.out.2.1 HA.out.2.2 HT.out.2⟩, by simp [intOf]; omega⟩
          · have f0 : ¬ (d.toNat : Int) ≥ 97 := by omega
            have f1 : (d.toNat : Int) ≤ 122 := by omega
            have f2 : (d.toNat : Int) ≥ 65 := by omega
            have f3 : ¬ (d.toNat : Int) ≤ 90 := by omega
            have e95 : ((d.toNat : Int) == 95) = true := by simp; omega
            have ht : isTail d = true := rk_tail_of (by omega)
            have hz : k = 0 → isHead d = true := fun h => rk_head_of (by omega)
            have HT := Lib.hid (And.intro ht hz)
            clear hc ht hz hn
            go_wp2_with fail
            exact ⟨⟨k + 1, _, rfl, hk2, rfl, key_step hk2 HL.out HA.out.1 HA.out.2.1 HT.out.1, key_head hk2 HL.out HA.out.2.1 HA.out.2.2 HT.out.2⟩, by simp [intOf]; omega⟩
          · have f0 : ¬ (d.toNat : Int) ≥ 97 := by omega
            have f1 : (d.toNat : Int) ≤ 122 := by omega
            have f2 : ¬ (d.toNat : Int) ≥ 65 := by omega
            have f3 : (d.toNat : Int) ≤ 90 := by omega
            have e95 : ((d.toNat : Int) == 95) = false := by simp; omega
            have ek : ((k : Int) == 0) = true := by simp; omega
            have hno : okB k d = false := okB_no0 (by omega) (by omega)
            have HN := Lib.hid hno
            clear hc hno hn
            go_wp2_with fail
            go_ret
            refine ⟨?_, by first | exact drewN_fr _ _ | exact (drewN_fr _ _).drewN _ | exact (drewN_fr _ _).drew | exact Fr.refl _ _⟩
            rw [← HANS.out, key_false hk2 HL.out HA.out.2.1 HN.out]
            rfl
          · have f0 : ¬ (d.toNat : Int) ≥ 97 := by omega
            have f1 : (d.toNat : Int) ≤ 122 := by omega
            have f2 : (d.toNat : Int) ≥ 65 := by omega
            have f3 : ¬ (d.toNat : Int) ≤ 90 := by omega
            have e95 : ((d.toNat : Int) == 95) = false := by simp; omega
            have ek : ((k : Int) == 0) = true := by simp; omega
            have hno : okB k d = false := okB_no0 (by omega) (by omega)
            have HN := Lib.hid hno
            clear hc hno hn
            go_wp2_with fail
            go_ret
            refine ⟨?_, by first | exact drewN_fr _ _ | exact (drewN_fr _ _).drewN _ | exact (drewN_fr _ _).drew | exact Fr.refl _ _⟩
            rw [← HANS.out, key_false hk2 HL.out HA.out.2.1 HN.out]
            rfl
          · have f0 : (d.toNat : Int) ≥ 97 := by omega
            have f1 : ¬ (d.toNat : Int) ≤ 122 := by omega
            have f2 : (d.toNat : Int) ≥ 65 := by omega
            have f3 : ¬ (d.toNat : Int) ≤ 90 := by omega
            have e95 : ((d.toNat : Int) == 95) = false := by simp; omega
            have ek : ((k : Int) == 0) = true := by simp; omega
            have hno : okB k d = false := okB_no0 (by omega) (by omega)
            have HN := Lib.hid hno
            clear hc hno hn
            go_wp2_with fail
            go_ret
            refine ⟨?_, by first | exact drewN_fr _ _ | exact (drewN_fr _ _).drewN _ | exact (drewN_fr _ _).drew | exact Fr.refl _ _⟩
            rw [← HANS.out, key_false hk2 HL.out HA.out.2.1 HN.out]
            rfl
          · have f0 : ¬ (d.toNat : Int) ≥ 97 := by omega
            have f1 : (d.toNat : Int) ≤ 122 := by omega
            have f2 : ¬ (d.toNat : Int) ≥ 65 := by omega
            have f3 : (d.toNat : Int) ≤ 90 := by omega
            have f4 : (d.toNat : Int) ≥ 48 := by omega
            have f5 : (d.toNat : Int) ≤ 57 := by omega
            have e95 : ((d.toNat : Int) == 95) = false := by simp; omega
            have e46 : ((d.toNat : Int) == 46) = false := by simp; omega
            have ek : ((k : Int) == 0) = false := by simp; omega
            have ht : isTail d = true := rk_tail_of (by omega)
            have hz : k = 0 → isHead d = true := fun h => absurd h (by omega)
            have HT := Lib.hid (And.intro ht hz)
            clear hc ht hz hn
            go_wp2_with fail
            exact ⟨⟨k + 1, _, rfl, hk2, rfl, key_step hk2 HL.out HA.out.1 HA.out.2.1 HT.out.1, key_head hk2 HL.out HA.out.2.1 HA.out.2.2 HT.out.2⟩, by simp [intOf]; omega⟩
          · have f0 : ¬ (d.toNat : Int) ≥ 97 := by omega
            have f1 : (d.toNat : Int) ≤ 122 := by omega
            have f2 : ¬ (d.toNat : Int) ≥ 65 := by omega
            have f3 : (d.toNat : Int) ≤ 90 := by omega
            have f4 : ¬ (d.toNat : Int) ≥ 48 := by omega
            have f5 : (d.toNat : Int) ≤ 57 := by omega
            have e95 : ((d.toNat : Int) == 95) = false := by simp; omega
            have e46 : ((d.toNat : Int) == 46) = true := by simp; omega
            have ek : ((k : Int) == 0) = false := by simp; omega
            have ht : isTail d = true := rk_tail_of (by omega)
            have hz : k = 0 → isHead d = true := fun h => absurd h (by omega)
            have HT := Lib.hid (And.intro ht hz)
            clear hc ht hz hn
            go_wp2_with fail
            exact ⟨⟨k + 1, _, rfl, hk2, rfl, key_step hk2 HL.out HA.out.1 HA.out.2.1 HT.out.1, key_head hk2 HL.out HA.out.2.1 HA.out.2.2 HT.out.2⟩, by simp [intOf]; omega⟩
          · have f0 : ¬ (d.toNat : Int) ≥ 97 := by omega
            have f1 : (d.toNat : Int) ≤ 122 := by omega
            have f2 : ¬ (d.toNat : Int) ≥ 65 := by omega
            have f3 : (d.toNat : Int) ≤ 90 := by omega
            have f4 : ¬ (d.toNat : Int) ≥ 48 := by omega
            have f5 : (d.toNat : Int) ≤ 57 := by omega
            have e95 : ((d.toNat : Int) == 95) = false := by simp; omega
            have e46 : ((d.toNat : Int) == 46) = false := by simp; omega
            have ek : ((k : Int) == 0) = false := by simp; omega
            have hno : okB k d = false := okB_no1 (by omega) (by omega)
            have HN := Lib.hid hno
            clear hc hno hn
            go_wp2_with fail
            go_ret
            refine ⟨?_, by first | exact drewN_fr _ _ | exact (drewN_fr _ _).drewN _ | exact (drewN_fr _ _).drew | exact Fr.refl _ _⟩
            rw [← HANS.out, key_false hk2 HL.out HA.out.2.1 HN.out]
            rfl
          · have f0 : ¬ (d.toNat : Int) ≥ 97 := by omega
            have f1 : (d.toNat : Int) ≤ 122 := by omega
            have f2 : ¬ (d.toNat : Int) ≥ 65 := by omega
            have f3 : (d.toNat : Int) ≤ 90 := by omega
            have f4 : (d.toNat : Int) ≥ 48 := by omega
            have f5 : ¬ (d.toNat : Int) ≤ 57 := by omega
            have e95 : ((d.toNat : Int) == 95) = false := by simp; omega
            have e46 : ((d.toNat : Int) == 46) = false := by simp; omega
            have ek : ((k : Int) == 0) = false := by simp; omega
            have hno : okB k d = false := okB_no1 (by omega) (by omega)
            have HN := Lib.hid hno
            clear hc hno hn
            go_wp2_with fail
            go_ret
            refine ⟨?_, by first | exact drewN_fr _ _ | exact (drewN_fr _ _).drewN _ | exact (drewN_fr _ _).drew | exact Fr.refl _ _⟩
            rw [← HANS.out, key_false hk2 HL.out HA.out.2.1 HN.out]
            rfl
          · have f0 : ¬ (d.toNat : Int) ≥ 97 := by omega
            have f1 : (d.toNat : Int) ≤ 122 := by omega
            have f2 : (d.toNat : Int) ≥ 65 := by omega
            have f3 : ¬ (d.toNat : Int) ≤ 90 := by omega
            have f4 : (d.toNat : Int) ≥ 48 := by omega
            have f5 : ¬ (d.toNat : Int) ≤ 57 := by omega
            have e95 : ((d.toNat : Int) == 95) = false := by simp; omega
            have e46 : ((d.toNat : Int) == 46) = false := by simp; omega
            have ek : ((k : Int) == 0) = false := by simp; omega
            have hno : okB k d = false := okB_no1 (by omega) (by omega)
            have HN := Lib.hid hno
            clear hc hno hn
            go_wp2_with fail
            go_ret
            refine ⟨?_, by first | exact drewN_fr _ _ | exact (drewN_fr _ _).drewN _ | exact (drewN_fr _ _).drew | exact Fr.refl _ _⟩
            rw [← HANS.out, key_false hk2 HL.out HA.out.2.1 HN.out]
            rfl
          · have f0 : (d.toNat : Int) ≥ 97 := by omega
            have f1 : ¬ (d.toNat : Int) ≤ 122 := by omega
            have f2 : (d.toNat : Int) ≥ 65 := by omega
            have f3 : ¬ (d.toNat : Int) ≤ 90 := by omega
            have f4 : (d.toNat : Int) ≥ 48 := by omega
            have f5 : ¬ (d.toNat : Int) ≤ 57 := by omega
            have e95 : ((d.toNat : Int) == 95) = false := by simp; omega
            have e46 : ((d.toNat : Int) == 46) = false := by simp; omega
            have ek : ((k : Int) == 0) = false := by simp; omega
            have hno : okB k d = false := okB_no1 (by omega) (by omega)
            have HN := Lib.hid hno
            clear hc hno hn
            go_wp2_with fail
            go_ret
            refine ⟨?_, by first | exact drewN_fr _ _ | exact (drewN_fr _ _).drewN _ | exact (drewN_fr _ _).drew | exact Fr.refl _ _⟩
            rw [← HANS.out, key_false hk2 HL.out HA.out.2.1 HN.out]
            rfl
        · obtain rfl : k = s.size := by omega
          have g3 : ¬ (s.size : Int) < (s.size : Int) := by omega
          rw [List.take_of_length_le (by rw [HL.out]; exact Nat.le_refl _)] at hall
          have HA := Lib.hid (And.intro hall (hhd h0))
          clear hall hhd
          go_wp2_with fail
          go_ret
          refine ⟨?_, drewN_fr _ _⟩
          rw [← HANS.out, HA.out.1, HA.out.2]
          rfl
    · rw [decide_eq_false h64]
      have g1 : (s.size : Int) > 64 := by omega
      go_enter Tryz.func110, Tryz.ntmps110
      go_wp2
      go_ret
      exact ⟨rfl, Fr.refl _ _⟩
  · rw [decide_eq_false h0]
    have g1 : (s.size : Int) < 1 := by omega
    go_enter Tryz.func110, Tryz.ntmps110
    go_wp2
    go_ret
    exact ⟨rfl, Fr.refl _ _⟩
end Go.Proofs.YtdhmloejgoacaaaGreatDoor
