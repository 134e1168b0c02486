/- The reference's Key. -/
import Derived.Test.YtaniaknphjnlkaaGreatDoorMw34
namespace Go.Proofs.YtaniaknphjnlkaaGreatDoor
open Go.RowKit Go.Bl Go.Lq

def okB (k : Nat) (c : UInt8) : Bool := if k = 0 then isHead c else isTail c
theorem rk_head_of {d : UInt8} (h : (97 ≤ d.toNat ∧ d.toNat ≤ 122) ∨ (65 ≤ d.toNat ∧ d.toNat ≤ 90) ∨ d.toNat = 95) : isHead d = true := by
  revert h; revert d
  have : ∀ n : Fin 256, ((97 ≤ n.val ∧ n.val ≤ 122) ∨ (65 ≤ n.val ∧ n.val ≤ 90) ∨ n.val = 95) → isHead (UInt8.ofNat n.val) = true := by decide +kernel
  intro d h
  have h1 := this ⟨d.toNat, d.toNat_lt⟩ h
  rwa [UInt8.ofNat_toNat] at h1
theorem rk_head_no {d : UInt8} (h : ¬ ((97 ≤ d.toNat ∧ d.toNat ≤ 122) ∨ (65 ≤ d.toNat ∧ d.toNat ≤ 90) ∨ d.toNat = 95)) : isHead d = false := by
  revert h; revert d
  have : ∀ n : Fin 256, ¬ ((97 ≤ n.val ∧ n.val ≤ 122) ∨ (65 ≤ n.val ∧ n.val ≤ 90) ∨ n.val = 95) → isHead (UInt8.ofNat n.val) = false := by decide +kernel
  intro d h
  have h1 := this ⟨d.toNat, d.toNat_lt⟩ h
  rwa [UInt8.ofNat_toNat] at h1
theorem rk_tail_of {d : UInt8} (h : (97 ≤ d.toNat ∧ d.toNat ≤ 122) ∨ (65 ≤ d.toNat ∧ d.toNat ≤ 90) ∨ d.toNat = 95 ∨ (48 ≤ d.toNat ∧ d.toNat ≤ 57) ∨ d.toNat = 46) : isTail d = true := by
  revert h; revert d
  have : ∀ n : Fin 256, ((97 ≤ n.val ∧ n.val ≤ 122) ∨ (65 ≤ n.val ∧ n.val ≤ 90) ∨ n.val = 95 ∨ (48 ≤ n.val ∧ n.val ≤ 57) ∨ n.val = 46) → isTail (UInt8.ofNat n.val) = true := by decide +kernel
  intro d h
  have h1 := this ⟨d.toNat, d.toNat_lt⟩ h
  rwa [UInt8.ofNat_toNat] at h1
theorem rk_tail_no {d : UInt8} (h : ¬ ((97 ≤ d.toNat ∧ d.toNat ≤ 122) ∨ (65 ≤ d.toNat ∧ d.toNat ≤ 90) ∨ d.toNat = 95 ∨ (48 ≤ d.toNat ∧ d.toNat ≤ 57) ∨ d.toNat = 46)) : isTail d = false := by
  revert h; revert d
  have : ∀ n : Fin 256, ¬ ((97 ≤ n.val ∧ n.val ≤ 122) ∨ (65 ≤ n.val ∧ n.val ≤ 90) ∨ n.val = 95 ∨ (48 ≤ n.val ∧ n.val ≤ 57) ∨ n.val = 46) → isTail (UInt8.ofNat n.val) = false := by decide +kernel
  intro d h
  have h1 := this ⟨d.toNat, d.toNat_lt⟩ h
  rwa [UInt8.ofNat_toNat] at h1
theorem okB_no0 {k : Nat} {d : UInt8} (hk : k = 0) (h : ¬ ((97 ≤ d.toNat ∧ d.toNat ≤ 122) ∨ (65 ≤ d.toNat ∧ d.toNat ≤ 90) ∨ d.toNat = 95)) : okB k d = false := by
  unfold okB; rw [if_pos hk]; exact rk_head_no h
theorem okB_no1 {k : Nat} {d : UInt8} (hk : k ≠ 0) (h : ¬ ((97 ≤ d.toNat ∧ d.toNat ≤ 122) ∨ (65 ≤ d.toNat ∧ d.toNat ≤ 90) ∨ d.toNat = 95 ∨ (48 ≤ d.toNat ∧ d.toNat ≤ 57) ∨ d.toNat = 46)) : okB k d = false := by
  unfold okB; rw [if_neg hk]; exact rk_tail_no h
theorem key_step {s : ByteArray} {k : Nat} {d : UInt8} (hk : k < s.size) (hl : s.data.toList.length = s.size) (hall : (s.data.toList.take k).all isTail = true) (hd : s.data.toList[k]'(by rw [hl]; exact hk) = d) (ht : isTail d = true) :
    (s.data.toList.take (k + 1)).all isTail = true := by
  rw [List.take_add_one, List.getElem?_eq_getElem (by rw [hl]; exact hk), hd, List.all_append, hall]
  simp [ht]
theorem key_head {s : ByteArray} {k : Nat} {d : UInt8} (hk : k < s.size) (hl : s.data.toList.length = s.size) (hd : s.data.toList[k]'(by rw [hl]; exact hk) = d)
    (hh : 0 < k → (s.data.toList.head?.map isHead).getD false = true) (hz : k = 0 → isHead d = true) : 0 < k + 1 → (s.data.toList.head?.map isHead).getD false = true := by
  intro _
  rcases Nat.eq_zero_or_pos k with h0 | h0
  · subst h0
    rw [List.head?_eq_getElem?, List.getElem?_eq_getElem (by rw [hl]; exact hk), hd]
    simp [hz rfl]
  · exact hh h0
theorem key_false {s : ByteArray} {k : Nat} {d : UInt8} (hk : k < s.size) (hl : s.data.toList.length = s.size) (hd : s.data.toList[k]'(by rw [hl]; exact hk) = d) (h : okB k d = false) :
    ((s.data.toList.head?.map isHead).getD false && s.data.toList.all isTail) = false := by
  unfold okB at h
  split at h
  · rename_i h0
    subst h0
    rw [List.head?_eq_getElem?, List.getElem?_eq_getElem (by rw [hl]; exact hk), hd]
    simp [h]
  · have : s.data.toList.all isTail = false := by
      rw [List.all_eq_false]
      exact ⟨d, by rw [← hd]; exact List.getElem_mem _, by rw [h]; simp⟩
    rw [this, Bool.and_false]
def KeyRLoop (s : ByteArray) (w : World) (iv : Value) (wr : World) : Prop := ∃ k n, iv = .int .i64 ((k : Nat) : Int) ∧ k ≤ s.size ∧ wr = w.drewN n ∧ (s.data.toList.take k).all isTail = true ∧ (0 < k → (s.data.toList.head?.map isHead).getD false = true)
theorem drewN_fr (w : World) (n : Nat) : Fr [] w (w.drewN n) := (Fr.refl _ _).drewN _
set_option maxRecDepth 100000 in
set_option maxHeartbeats 400000 in
theorem keyR_any (s : ByteArray) (w : World) : Calls Tryz.prog 74 #[.string s] w fun e w' => e = .returned (.bool (keyP s.data.toList)) ∧ Fr [] w w' := by
  have hl := bytes_len s
  rw [keyP_cases]
  by_cases h0 : 0 < s.size
  · rw [decide_eq_true h0, Bool.true_and]
    have g0 : ¬ (s.size : Int) < 1 := by omega
    by_cases h64 : s.size ≤ 64
    · rw [decide_eq_true h64, Bool.true_and]
      have g1 : ¬ (s.size : Int) > 64 := by omega
      obtain ⟨ans, hans⟩ : ∃ ans, ((s.data.toList.head?.map isHead).getD false && s.data.toList.all isTail) = ans := ⟨_, rfl⟩
      rw [hans]
      have HANS := Lib.hid hans
      have HL := Lib.hid hl
      clear hans hl
      go_enter Tryz.func74, Tryz.ntmps74
      go_wp2_with fail
      go_loopw [3] (fun iv wr => KeyRLoop s w iv wr) (fun iv _ => s.size - (intOf iv).toNat)
      case atStart => exact ⟨0, 0, rfl, Nat.zero_le _, rfl, rfl, fun h => absurd h (by omega)⟩
      case round =>
        obtain ⟨k, nd, rfl, hk, rfl, hall, hhd⟩ := hrel
        by_cases hk2 : k < s.size
        · have g3 : (k : Int) < (s.size : Int) := by omega
          have g4 : (0 : Int) ≤ (k : Int) ∧ (k : Int) < (s.size : Int) := by omega
          obtain ⟨d, hd2⟩ : ∃ d, s[k] = d := ⟨_, rfl⟩
          have hda : s.data.toList[k]'(by rw [HL.out]; exact hk2) = d := by rw [byte_at s k hk2, hd2]
          have HA := Lib.hid (And.intro hall (And.intro hda hhd))
          have hkk : k + 1 ≤ 100000 := by omega
          clear hall hda hhd
          have hwk : True → wrap64 ((k : Int) + 1) = (k : Int) + 1 := fun _ => wrap_sum (x := k) (c := 1) hkk
          obtain ⟨n, hn⟩ : ∃ n, d.toNat = n := ⟨_, rfl⟩
          have hn2 : n < 256 := by rw [← hn]; exact UInt8.toNat_lt d
          have hcl : (97 ≤ n ∧ n ≤ 122) ∨ (65 ≤ n ∧ n ≤ 90) ∨ (n = 95) ∨ (n < 65 ∧ k = 0) ∨ (91 ≤ n ∧ n ≤ 96 ∧ n ≠ 95 ∧ k = 0) ∨ (122 < n ∧ k = 0) ∨ (48 ≤ n ∧ n ≤ 57 ∧ k ≠ 0) ∨ (n = 46 ∧ k ≠ 0) ∨ (n < 48 ∧ n ≠ 46 ∧ k ≠ 0) ∨ (58 ≤ n ∧ n ≤ 64 ∧ k ≠ 0) ∨ (91 ≤ n ∧ n ≤ 96 ∧ n ≠ 95 ∧ k ≠ 0) ∨ (122 < n ∧ k ≠ 0) := by omega
          rcases hcl with hc | hc | hc | hc | hc | hc | hc | hc | hc | hc | hc | hc
          · have f0 : (d.toNat : Int) ≥ 97 := by omega
            have f1 : (d.toNat : Int) ≤ 122 := by omega
            have f2 : (d.toNat : Int) ≥ 65 := by omega
            have f3 : ¬ (d.toNat : Int) ≤ 90 := by omega
            have e95 : ((d.toNat : Int) == 95) = false := by simp; omega
            have ht : isTail d = true := rk_tail_of (by omega)
            have hz : k = 0 → isHead d = true := fun h => rk_head_of (by omega)
            have HT := Lib.hid (And.intro ht hz)
            clear hc ht hz hn
            go_wp2_with fail
            exact ⟨⟨k + 1, _, rfl, hk2, rfl, key_step hk2 HL.out HA.out.1 HA.out.2.1 HT.out.1, key_head hk2 HL.out HA.out.2.1 HA.out.2.2 HT.out.2⟩, by simp [intOf]; omega⟩
          · have f0 : ¬ (d.toNat : Int) ≥ 97 := by omega
            have f1 : (d.toNat : Int) ≤ 122 := by omega
            have f2 : (d.toNat : Int) ≥ 65 := by omega
            have f3 : (d.toNat : Int) ≤ 90 := by omega
            have e95 : ((d.toNat : Int) == 95) = false := by simp; omega
            have ht : isTail d = true := rk_tail_of (by omega)
            have hz : k = 0 → isHead d = true := fun h => rk_head_of (by omega)
            have HT := Lib.hid (And.intro ht hz)
            clear hc ht hz hn
            go_wp2_with fail
            exact ⟨⟨k + 1, _, rfl, hk2, rfl, key_step hk2 HL.out HA.out.1 HA.out.2.1 HT.out.1, key_head hk2 HL.out HA.out.2.1 HA.out.2.2 HT.out.2⟩, by simp [intOf]; omega⟩
          · have f0 : ¬ (d.toNat : Int) ≥ 97 := by omega
            have f1 : (d.toNat : Int) ≤ 122 := by omega
            have f2 : (d.toNat : Int) ≥ 65 := by omega
            have f3 : ¬ (d.toNat : Int) ≤ 90 := by omega
            have e95 : ((d.toNat : Int) == 95) = true := by simp; omega
            have ht : isTail d = true := rk_tail_of (by omega)
            have hz : k = 0 → isHead d = true := fun h => rk_head_of (by omega)
            have HT := Lib.hid (And.intro ht hz)
            clear hc ht hz hn
            go_wp2_with fail
            exact ⟨⟨k + 1, _, rfl, hk2, rfl, key_step hk2 HL.out HA.out.1 HA.out.2.1 HT.out.1, key_head hk2 HL.out HA.out.2.1 HA.out.2.2 HT.out.2⟩, by simp [intOf]; omega⟩
          · have f0 : ¬ (d.toNat : Int) ≥ 97 := by omega
            have f1 : (d.toNat : Int) ≤ 122 := by omega
            have f2 : ¬ (d.toNat : Int) ≥ 65 := by omega
            have f3 : (d.toNat : Int) ≤ 90 := by omega
            have e95 : ((d.toNat : Int) == 95) = false := by simp; omega
            have ek : ((k : Int) == 0) = true := by simp; omega
            have hno : okB k d = false := okB_no0 (by omega) (by omega)
            have HN := Lib.hid hno
            clear hc hno hn
            go_wp2_with fail
            go_ret
            refine ⟨?_, by first | exact drewN_fr _ _ | exact (drewN_fr _ _).drewN _ | exact (drewN_fr _ _).drew | exact Fr.refl _ _⟩
            rw [← HANS.out, key_false hk2 HL.out HA.out.2.1 HN.out]
            rfl
          · have f0 : ¬ (d.toNat : Int) ≥ 97 := by omega
            have f1 : (d.toNat : Int) ≤ 122 := by omega
            have f2 : (d.toNat : Int) ≥ 65 := by omega
            have f3 : ¬ (d.toNat : Int) ≤ 90 := by omega
            have e95 : ((d.toNat : Int) == 95) = false := by simp; omega
            have ek : ((k : Int) == 0) = true := by simp; omega
            have hno : okB k d = false := okB_no0 (by omega) (by omega)
            have HN := Lib.hid hno
            clear hc hno hn
            go_wp2_with fail
            go_ret
            refine ⟨?_, by first | exact drewN_fr _ _ | exact (drewN_fr _ _).drewN _ | exact (drewN_fr _ _).drew | exact Fr.refl _ _⟩
            rw [← HANS.out, key_false hk2 HL.out HA.out.2.1 HN.out]
            rfl
          · have f0 : (d.toNat : Int) ≥ 97 := by omega
            have f1 : ¬ (d.toNat : Int) ≤ 122 := by omega
            have f2 : (d.toNat : Int) ≥ 65 := by omega
            have f3 : ¬ (d.toNat : Int) ≤ 90 := by omega
            have e95 : ((d.toNat : Int) == 95) = false := by simp; omega
            have ek : ((k : Int) == 0) = true := by simp; omega
            have hno : okB k d = false := okB_no0 (by omega) (by omega)
            have HN := Lib.hid hno
            clear hc hno hn
            go_wp2_with fail
            go_ret
            refine ⟨?_, by first | exact drewN_fr _ _ | exact (drewN_fr _ _).drewN _ | exact (drewN_fr _ _).drew | exact Fr.refl _ _⟩
            rw [← HANS.out, key_false hk2 HL.out HA.out.2.1 HN.out]
            rfl
          · have f0 : ¬ (d.toNat : Int) ≥ 97 := by omega
            have f1 : (d.toNat : Int) ≤ 122 := by omega
            have f2 : ¬ (d.toNat : Int) ≥ 65 := by omega
            have f3 : (d.toNat : Int) ≤ 90 := by omega
            have f4 : (d.toNat : Int) ≥ 48 := by omega
            have f5 : (d.toNat : Int) ≤ 57 := by omega
            have e95 : ((d.toNat : Int) == 95) = false := by simp; omega
            have e46 : ((d.toNat : Int) == 46) = false := by simp; omega
            have ek : ((k : Int) == 0) = false := by simp; omega
            have ht : isTail d = true := rk_tail_of (by omega)
            have hz : k = 0 → isHead d = true := fun h => absurd h (by omega)
            have HT := Lib.hid (And.intro ht hz)
            clear hc ht hz hn
            go_wp2_with fail
            exact ⟨⟨k + 1, _, rfl, hk2, rfl, key_step hk2 HL.out HA.out.1 HA.out.2.1 HT.out.1, key_head hk2 HL.out HA.out.2.1 HA.out.2.2 HT.out.2⟩, by simp [intOf]; omega⟩
          · have f0 : ¬ (d.toNat : Int) ≥ 97 := by omega
            have f1 : (d.toNat : Int) ≤ 122 := by omega
            have f2 : ¬ (d.toNat : Int) ≥ 65 := by omega
            have f3 : (d.toNat : Int) ≤ 90 := by omega
            have f4 : ¬ (d.toNat : Int) ≥ 48 := by omega
            have f5 : (d.toNat : Int) ≤ 57 := by omega
            have e95 : ((d.toNat : Int) == 95) = false := by simp; omega
            have e46 : ((d.toNat : Int) == 46) = true := by simp; omega
            have ek : ((k : Int) == 0) = false := by simp; omega
            have ht : isTail d = true := rk_tail_of (by omega)
            have hz : k = 0 → isHead d = true := fun h => absurd h (by omega)
            have HT := Lib.hid (And.intro ht hz)
            clear hc ht hz hn
            go_wp2_with fail
            exact ⟨⟨k + 1, _, rfl, hk2, rfl, key_step hk2 HL.out HA.out.1 HA.out.2.1 HT.out.1, key_head hk2 HL.out HA.out.2.1 HA.out.2.2 HT.out.2⟩, by simp [intOf]; omega⟩
          · have f0 : ¬ (d.toNat : Int) ≥ 97 := by omega
            have f1 : (d.toNat : Int) ≤ 122 := by omega
            have f2 : ¬ (d.toNat : Int) ≥ 65 := by omega
            have f3 : (d.toNat : Int) ≤ 90 := by omega
            have f4 : ¬ (d.toNat : Int) ≥ 48 := by omega
            have f5 : (d.toNat : Int) ≤ 57 := by omega
            have e95 : ((d.toNat : Int) == 95) = false := by simp; omega
            have e46 : ((d.toNat : Int) == 46) = false := by simp; omega
            have ek : ((k : Int) == 0) = false := by simp; omega
            have hno : okB k d = false := okB_no1 (by omega) (by omega)
            have HN := Lib.hid hno
            clear hc hno hn
            go_wp2_with fail
            go_ret
            refine ⟨?_, by first | exact drewN_fr _ _ | exact (drewN_fr _ _).drewN _ | exact (drewN_fr _ _).drew | exact Fr.refl _ _⟩
            rw [← HANS.out, key_false hk2 HL.out HA.out.2.1 HN.out]
            rfl
          · have f0 : ¬ (d.toNat : Int) ≥ 97 := by omega
            have f1 : (d.toNat : Int) ≤ 122 := by omega
            have f2 : ¬ (d.toNat : Int) ≥ 65 := by omega
            have f3 : (d.toNat : Int) ≤ 90 := by omega
            have f4 : (d.toNat : Int) ≥ 48 := by omega
            have f5 : ¬ (d.toNat : Int) ≤ 57 := by omega
            have e95 : ((d.toNat : Int) == 95) = false := by simp; omega
            have e46 : ((d.toNat : Int) == 46) = false := by simp; omega
            have ek : ((k : Int) == 0) = false := by simp; omega
            have hno : okB k d = false := okB_no1 (by omega) (by omega)
            have HN := Lib.hid hno
            clear hc hno hn
            go_wp2_with fail
            go_ret
            refine ⟨?_, by first | exact drewN_fr _ _ | exact (drewN_fr _ _).drewN _ | exact (drewN_fr _ _).drew | exact Fr.refl _ _⟩
            rw [← HANS.out, key_false hk2 HL.out HA.out.2.1 HN.out]
            rfl
          · have f0 : ¬ (d.toNat : Int) ≥ 97 := by omega
            have f1 : (d.toNat : Int) ≤ 122 := by omega
            have f2 : (d.toNat : Int) ≥ 65 := by omega
            have f3 : ¬ (d.toNat : Int) ≤ 90 := by omega
            have f4 : (d.toNat : Int) ≥ 48 := by omega
            have f5 : ¬ (d.toNat : Int) ≤ 57 := by omega
            have e95 : ((d.toNat : Int) == 95) = false := by simp; omega
            have e46 : ((d.toNat : Int) == 46) = false := by simp; omega
            have ek : ((k : Int) == 0) = false := by simp; omega
            have hno : okB k d = false := okB_no1 (by omega) (by omega)
            have HN := Lib.hid hno
            clear hc hno hn
            go_wp2_with fail
            go_ret
            refine ⟨?_, by first | exact drewN_fr _ _ | exact (drewN_fr _ _).drewN _ | exact (drewN_fr _ _).drew | exact Fr.refl _ _⟩
            rw [← HANS.out, key_false hk2 HL.out HA.out.2.1 HN.out]
            rfl
          · have f0 : (d.toNat : Int) ≥ 97 := by omega
            have f1 : ¬ (d.toNat : Int) ≤ 122 := by omega
            have f2 : (d.toNat : Int) ≥ 65 := by omega
            have f3 : ¬ (d.toNat : Int) ≤ 90 := by omega
            have f4 : (d.toNat : Int) ≥ 48 := by omega
            have f5 : ¬ (d.toNat : Int) ≤ 57 := by omega
            have e95 : ((d.toNat : Int) == 95) = false := by simp; omega
            have e46 : ((d.toNat : Int) == 46) = false := by simp; omega
            have ek : ((k : Int) == 0) = false := by simp; omega
            have hno : okB k d = false := okB_no1 (by omega) (by omega)
            have HN := Lib.hid hno
            clear hc hno hn
            go_wp2_with fail
            go_ret
            refine ⟨?_, by first | exact drewN_fr _ _ | exact (drewN_fr _ _).drewN _ | exact (drewN_fr _ _).drew | exact Fr.refl _ _⟩
            rw [← HANS.out, key_false hk2 HL.out HA.out.2.1 HN.out]
            rfl
        · obtain rfl : k = s.size := by omega
          have g3 : ¬ (s.size : Int) < (s.size : Int) := by omega
          rw [List.take_of_length_le (by rw [HL.out]; exact Nat.le_refl _)] at hall
          have HA := Lib.hid (And.intro hall (hhd h0))
          clear hall hhd
          go_wp2_with fail
          go_ret
          refine ⟨?_, drewN_fr _ _⟩
          rw [← HANS.out, HA.out.1, HA.out.2]
          rfl
    · rw [decide_eq_false h64]
      have g1 : (s.size : Int) > 64 := by omega
      go_enter Tryz.func74, Tryz.ntmps74
      go_wp2
      go_ret
      exact ⟨rfl, Fr.refl _ _⟩
  · rw [decide_eq_false h0]
    have g1 : (s.size : Int) < 1 := by omega
    go_enter Tryz.func74, Tryz.ntmps74
    go_wp2
    go_ret
    exact ⟨rfl, Fr.refl _ _⟩
end Go.Proofs.YtaniaknphjnlkaaGreatDoor
