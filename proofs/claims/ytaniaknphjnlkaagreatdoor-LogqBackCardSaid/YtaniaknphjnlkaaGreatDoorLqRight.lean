/- Right: can a query be? -/
import Derived.Test.YtaniaknphjnlkaaGreatDoorLqText
import Derived.Test.YtaniaknphjnlkaaGreatDoorLqParse
import Derived.Test.YtaniaknphjnlkaaGreatDoorShelfVal
namespace Go.Proofs.YtaniaknphjnlkaaGreatDoor
open Go.RowKit Go.Bl Go.Lq

theorem valid_any (s : ByteArray) (w : World) (hs : s.size ≤ 1024) (hG : GV w) : Calls Tryz.prog 91 #[.string s] w fun e w' => e = .returned (.bool (Lib.validD s.data.toList)) ∧ Fr [] w w' :=
  (Any.utf8_ValidString Tryz.lays196 s w (by omega) hG.utf).mono fun _ _ h => ⟨h.1, fr_newR h.2 []⟩

set_option maxRecDepth 100000 in
theorem head_any (c : UInt8) (w : World) : Calls Tryz.prog 89 #[.int .u8 (c.toNat : Int)] w fun e w' => e = .returned (.bool (isHead c)) ∧ w' = w := by
  have hb := bits_or c
  have ho := head_or c
  obtain ⟨d, hd⟩ : ∃ d, c ||| 32 = d := ⟨_, rfl⟩
  rw [hd] at hb ho
  have b2 : ((c.toNat : Int) == 95) = decide (c = 95) := beq_u8 c 95 (by omega)
  obtain ⟨x, hx⟩ : ∃ x, decide (97 ≤ d.toNat) = x := ⟨_, rfl⟩
  obtain ⟨y, hy⟩ : ∃ y, decide (d.toNat ≤ 122) = y := ⟨_, rfl⟩
  have ho2 : isHead c = ((x && y) || decide (c = 95)) := by rw [ho, ← hx, ← hy]; simp
  obtain ⟨z, hz⟩ : ∃ z, decide (c = 95) = z := ⟨_, rfl⟩
  rw [hz] at b2 ho2
  rw [ho2]
  have hx2 : decide ((d.toNat : Int) ≥ 97) = x := by rw [← hx]; apply decide_eq_decide.2; omega
  have hy2 : decide ((d.toNat : Int) ≤ 122) = y := by rw [← hy]; apply decide_eq_decide.2; omega
  clear ho ho2 hx hy hz hd
  go_enter Tryz.func89, Tryz.ntmps89
  go_wp2
  all_goals (go_ret; exact ⟨by simp_all, rfl⟩)
set_option maxRecDepth 100000 in
theorem tail_any (c : UInt8) (w : World) : Calls Tryz.prog 90 #[.int .u8 (c.toNat : Int)] w fun e w' => e = .returned (.bool (isTail c)) ∧ w' = w := by
  have hh := head_any c w
  obtain ⟨a, ha⟩ : ∃ a, isHead c = a := ⟨_, rfl⟩
  rw [ha] at hh
  obtain ⟨x, hx⟩ : ∃ x, decide (48 ≤ c.toNat) = x := ⟨_, rfl⟩
  obtain ⟨y, hy⟩ : ∃ y, decide (c.toNat ≤ 57) = y := ⟨_, rfl⟩
  obtain ⟨z, hz⟩ : ∃ z, decide (c = 46) = z := ⟨_, rfl⟩
  have b2 : ((c.toNat : Int) == 46) = decide (c = 46) := beq_u8 c 46 (by omega)
  rw [hz] at b2
  have hx2 : decide ((c.toNat : Int) ≥ 48) = x := by rw [← hx]; apply decide_eq_decide.2; omega
  have hy2 : decide ((c.toNat : Int) ≤ 57) = y := by rw [← hy]; apply decide_eq_decide.2; omega
  have ht : isTail c = (a || (x && y) || z) := by
    unfold isTail isDigit
    rw [ha, ← hx, ← hy, ← hz]
    congr 1
  rw [ht]
  clear ht ha hx hy hz
  go_enter Tryz.func90, Tryz.ntmps90
  go_wp2_with fail
  refine hh.mono ?_
  rintro e w' ⟨rfl, rfl⟩
  go_wp2
  all_goals (go_ret; exact ⟨by simp_all, rfl⟩)

set_option maxRecDepth 100000 in
theorem plain_any (s : ByteArray) (w : World) (hG : GV w) : Calls Tryz.prog 73 #[.string s] w fun e w' => e = .returned (.bool (plainP Lib.validD s.data.toList)) ∧ Fr [] w w' := by
  have hlen := bytes_len s
  by_cases h : s.size ≤ 256
  · have hv := valid_any s w (by omega) hG
    have hp : plainP Lib.validD s.data.toList = Lib.validD s.data.toList := by unfold plainP; rw [hlen, decide_eq_true h, Bool.true_and]
    rw [hp]
    obtain ⟨b, hb⟩ : ∃ b, Lib.validD s.data.toList = b := ⟨_, rfl⟩
    rw [hb] at hv ⊢
    have h1 : (s.size : Int) ≤ 256 := by omega
    clear hp hb
    go_enter Tryz.func73, Tryz.ntmps73
    go_wp2_with fail
    refine hv.mono ?_
    rintro e w' ⟨rfl, hF⟩
    go_wp2
    go_ret
    exact ⟨rfl, hF⟩
  · have hp : plainP Lib.validD s.data.toList = false := by unfold plainP; rw [hlen, decide_eq_false h, Bool.false_and]
    rw [hp]
    have h1 : ¬ (s.size : Int) ≤ 256 := by omega
    clear hp
    go_enter Tryz.func73, Tryz.ntmps73
    go_wp2
    go_ret
    exact ⟨rfl, Fr.refl _ _⟩
theorem empty_iff (s : ByteArray) : s.toList.isEmpty = decide (s.data.toList = []) := by
  rw [ByteArray.toList_eq]
  cases s.data.toList <;> rfl
set_option maxRecDepth 100000 in
theorem value_any (s : ByteArray) (w : World) (hG : GV w) : Calls Tryz.prog 54 #[.string s] w fun e w' => e = .returned (.bool (valueP Lib.validD s.data.toList)) ∧ Fr [] w w' := by
  have he := empty_iff s
  by_cases h : s.data.toList = []
  · have hp : valueP Lib.validD s.data.toList = false := by unfold valueP; rw [h]; rfl
    rw [hp]
    rw [decide_eq_true h] at he
    clear hp h
    go_enter Tryz.func54, Tryz.ntmps54
    go_wp2
    go_ret
    exact ⟨rfl, Fr.refl _ _⟩
  · have hv := plain_any s w hG
    have hp : valueP Lib.validD s.data.toList = plainP Lib.validD s.data.toList := by unfold valueP; rw [decide_eq_true h, Bool.true_and]
    rw [hp]
    obtain ⟨b, hb⟩ : ∃ b, plainP Lib.validD s.data.toList = b := ⟨_, rfl⟩
    rw [hb] at hv ⊢
    rw [decide_eq_false h] at he
    clear hp hb h
    go_enter Tryz.func54, Tryz.ntmps54
    go_wp2_with fail
    refine hv.mono ?_
    rintro e w' ⟨rfl, hF⟩
    go_wp2
    go_ret
    exact ⟨rfl, hF⟩
end Go.Proofs.YtaniaknphjnlkaaGreatDoor
