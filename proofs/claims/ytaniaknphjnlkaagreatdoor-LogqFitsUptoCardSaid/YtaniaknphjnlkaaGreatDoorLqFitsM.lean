/- Holds; Fits of attributes. -/
import Derived.Test.YtaniaknphjnlkaaGreatDoorLqAts
import Derived.Test.YtaniaknphjnlkaaGreatDoorShelf
import Derived.Deep.DeepCutAuto
namespace Go.Proofs.YtaniaknphjnlkaaGreatDoor
open Go.RowKit Go.Bl Go.Lq

/-- The library's own variable: how long a text it looks through at once. -/
def GX (w : World) : Prop := ∃ m, w.cell? ⟨0, 0, none⟩ = some (.int .i64 m)
theorem GX.fr {w w' : World} (h : GX w) (hF : Fr [] w w') : GX w' := by
  obtain ⟨m, hm⟩ := h
  exact ⟨m, cell_frS hF hm (by simp)⟩
theorem contains_any (s p : ByteArray) (w : World) (hs : s.size ≤ 2000000) (hX : GX w) : Calls Tryz.prog 36 #[.string s, .string p] w fun e w' => e = .returned (.bool (Lib.contains s.data.toList p.data.toList)) ∧ w' = w := by
  obtain ⟨m, hm⟩ := hX
  exact Tryz.strings_Contains s p m w (by omega) hm
def AtsShort (l : List At) : Prop := l.length ≤ 2000000 ∧ ∀ a ∈ l, a.key.length + a.val.length ≤ 2000000
theorem getP_short {l : List At} (h : ∀ a ∈ l, a.key.length + a.val.length ≤ 2000000) (x : Bs) : (getP l x).1.length ≤ 2000000 := by
  induction l with
  | nil => simp [getP]
  | cons a l ih =>
    unfold getP
    split
    · have := h a (by simp)
      simp only
      omega
    · exact ih (fun b hb => h b (by simp [hb]))
def MtsShort (l : List Mt) : Prop := l.length ≤ 2000000 ∧ ∀ m ∈ l, m.key.length + m.val.length ≤ 2000000
theorem holdsP_1 {m : Mt} {v : Bs} (h : m.op = 1) : holdsP m v = decide (v = m.val) := by unfold holdsP; rw [if_pos h]
theorem holdsP_2 {m : Mt} {v : Bs} (h : m.op = 2) : holdsP m v = !decide (v = m.val) := by unfold holdsP; rw [if_neg (by omega), if_pos h]
theorem holdsP_3 {m : Mt} {v : Bs} (h : m.op = 3) : holdsP m v = Lib.contains v m.val := by unfold holdsP; rw [if_neg (by omega), if_neg (by omega), if_pos h]
theorem holdsP_4 {m : Mt} {v : Bs} (h : m.op = 4) : holdsP m v = !Lib.contains v m.val := by unfold holdsP; rw [if_neg (by omega), if_neg (by omega), if_neg (by omega), if_pos h]
theorem holdsP_0 {m : Mt} {v : Bs} (h1 : ¬ m.op = 1) (h2 : ¬ m.op = 2) (h3 : ¬ m.op = 3) (h4 : ¬ m.op = 4) : holdsP m v = false := by unfold holdsP; rw [if_neg h1, if_neg h2, if_neg h3, if_neg h4]
set_option maxRecDepth 100000 in
set_option maxHeartbeats 800000 in
theorem holds_any (m : Mt) (x : ByteArray) (w : World) (hx : x.size ≤ 2000000) (hm : m.val.length ≤ 2000000) :
    Calls Tryz.prog 39 #[.agg #[.int .i64 m.op, .string ⟨m.key.toArray⟩, .string ⟨m.val.toArray⟩], .string x] w fun e w' => e = .returned (.bool (holdsP m x.data.toList)) ∧ Fr [] w w' := by
  obtain ⟨op, hop⟩ : ∃ op, m.op = op := ⟨_, rfl⟩
  obtain ⟨K, hK⟩ : ∃ K : ByteArray, ⟨m.key.toArray⟩ = K := ⟨_, rfl⟩
  obtain ⟨V, hV⟩ : ∃ V : ByteArray, ⟨m.val.toArray⟩ = V := ⟨_, rfl⟩
  have sV : V.size ≤ 2000000 := by rw [← hV, bs_size]; exact hm
  have hVd : V.data.toList = m.val := by rw [← hV]
  have hh := has_any' x V (w.alloc (.cells #[.int .i64 op, .string K, .string V] 56)) hx sV
  have hbe := beq_bytes x V
  rw [hVd] at hbe hh
  rw [hop, hK, hV]
  have hF0 : Fr [] w (w.alloc (.cells #[.int .i64 op, .string K, .string V] 56)) := (Fr.refl _ _).alloc _
  have HF := Lib.hid hF0
  obtain ⟨bh, hbh⟩ : ∃ b, Lib.contains x.data.toList m.val = b := ⟨_, rfl⟩
  obtain ⟨be, hbq⟩ : ∃ b, decide (x.data.toList = m.val) = b := ⟨_, rfl⟩
  rw [hbh] at hh
  rw [hbq] at hbe
  clear hm hK hV hVd hF0
  by_cases h1 : op = 1
  · rw [holdsP_1 (by rw [hop, h1]), hbq]
    subst h1
    clear hop hbh hbq hh
    go_enter Tryz.func39, Tryz.ntmps39
    go_wp2_with fail
    go_ret
    exact ⟨rfl, HF.out⟩
  · by_cases h2 : op = 2
    · rw [holdsP_2 (by rw [hop, h2]), hbq]
      subst h2
      clear hop hbh hbq hh
      go_enter Tryz.func39, Tryz.ntmps39
      go_wp2_with fail
      go_ret
      exact ⟨rfl, HF.out⟩
    · by_cases h3 : op = 3
      · rw [holdsP_3 (by rw [hop, h3]), hbh]
        subst h3
        clear hop hbh hbq hbe
        go_enter Tryz.func39, Tryz.ntmps39
        go_wp2_with fail
        refine hh.mono ?_
        rintro e w1 ⟨rfl, hF1⟩
        go_wp2_with fail
        go_ret
        exact ⟨rfl, HF.out.trans hF1⟩
      · by_cases h4 : op = 4
        · rw [holdsP_4 (by rw [hop, h4]), hbh]
          subst h4
          clear hop hbh hbq hbe
          go_enter Tryz.func39, Tryz.ntmps39
          go_wp2_with fail
          refine hh.mono ?_
          rintro e w1 ⟨rfl, hF1⟩
          go_wp2_with fail
          go_ret
          exact ⟨rfl, HF.out.trans hF1⟩
        · rw [holdsP_0 (by rw [hop]; exact h1) (by rw [hop]; exact h2) (by rw [hop]; exact h3) (by rw [hop]; exact h4)]
          have q1 : (op == 1) = false := by simpa using h1
          have q2 : (op == 2) = false := by simpa using h2
          have q3 : (op == 3) = false := by simpa using h3
          have q4 : (op == 4) = false := by simpa using h4
          clear hop hbh hbq hbe hh h1 h2 h3 h4
          go_enter Tryz.func39, Tryz.ntmps39
          go_wp2_with fail
          go_ret
          exact ⟨rfl, HF.out⟩
def FMRel (w : World) (l : List At) (ms : List Mt) (iv : Value) (wr : World) : Prop :=
  ∃ k, iv = .int .i64 ((k : Nat) : Int) ∧ k ≤ ms.length ∧ Fr [] w wr ∧ fitsM l ms = fitsM l (ms.drop k)
set_option maxRecDepth 100000 in
set_option maxHeartbeats 800000 in
theorem fitsR_any (l : List At) (ms : List Mt) (v v2 : Value) (w : World) (hA : Ats w v l) (hM : Mts w v2 ms) (hls : AtsShort l) (hms : MtsShort ms) :
    Calls Tryz.prog 37 #[v, v2] w fun e w' => e = .returned (.bool (fitsM l ms)) ∧ Fr [] w w' := by
  have HA := Lib.hid hA
  obtain ⟨B, bp, rfl, z1, z2⟩ := hA
  clear z1 z2
  obtain ⟨A, cp, rfl, hl, hx⟩ := hM
  have HX := Lib.hid hx
  have hlen := hms.1
  obtain ⟨ans, hans⟩ : ∃ ans, fitsM l ms = ans := ⟨_, rfl⟩
  rw [hans]
  have HANS := Lib.hid hans
  clear hx hans
  go_enter Tryz.func37, Tryz.ntmps37
  go_wp2_with fail
  go_loopw [5] (fun iv wr => FMRel w l ms iv wr) (fun iv _ => ms.length - (intOf iv).toNat)
  case atStart => exact ⟨0, rfl, by omega, Fr.refl _ _, rfl⟩
  case round =>
    obtain ⟨k, rfl, hk, hF, hw⟩ := hrel
    by_cases hk2 : k < ms.length
    · obtain ⟨ad, rfl, m0, m1, m2⟩ := HX.out k hk2
      have c0 := cell_frS hF m0 (by simp)
      have c1 := cell_frS hF m1 (by simp)
      have c2 := cell_frS hF m2 (by simp)
      have hsp := World.cell?_spot c0
      clear m0 m1 m2
      obtain ⟨m, hm⟩ : ∃ m, ms[k] = m := ⟨_, rfl⟩
      rw [fitsM_drop hk2] at hw
      rw [hm] at c0 c1 c2 hw
      have hmv : m.val.length ≤ 2000000 := by have := hms.2 m (by rw [← hm]; exact List.getElem_mem _); omega
      have hkl : (k : Int) < (ms.length : Int) := by omega
      have hk1 : k + 1 ≤ 4000000 := by omega
      obtain ⟨K, hK⟩ : ∃ K : ByteArray, ⟨m.key.toArray⟩ = K := ⟨_, rfl⟩
      have hg := getR_any l _ K wr hls.1 (HA.out.fr hF)
      rw [show K.data.toList = m.key by rw [← hK]] at hg
      have hgs := getP_short hls.2 m.key
      obtain ⟨⟨gv, gb⟩, hgp⟩ : ∃ r, getP l m.key = r := ⟨_, rfl⟩
      rw [hgp] at hg hgs hw
      obtain ⟨X, hX⟩ : ∃ X : ByteArray, ⟨gv.toArray⟩ = X := ⟨_, rfl⟩
      have hh := fun w' => holds_any m X w' (by rw [← hX, bs_size]; exact hgs) hmv
      rw [show X.data.toList = gv by rw [← hX]] at hh
      unfold getV at hg
      dsimp only at hg hw hgs
      rw [hX] at hg
      obtain ⟨bh, hbh⟩ : ∃ b, holdsP m gv = b := ⟨_, rfl⟩
      rw [hbh] at hh hw
      rw [hK] at c1 hh
      obtain ⟨V, hV⟩ : ∃ V : ByteArray, ⟨m.val.toArray⟩ = V := ⟨_, rfl⟩
      rw [hV] at c2 hh
      have HH := Lib.hid hh
      have HW := Lib.hid (And.intro hw hF)
      clear hw hF hm hK hV hX hbh hh hgp hgs
      go_wp2_with fail
      refine hg.mono ?_
      rintro e w1 ⟨rfl, hF1⟩
      have d0 := cell_frS hF1 c0 (by simp)
      have d1 := cell_frS hF1 c1 (by simp)
      have d2 := cell_frS hF1 c2 (by simp)
      have HF1 := Lib.hid hF1
      clear hF1 hg c0 c1 c2
      go_wp2_with fail
      refine (HH.out _).mono ?_
      rintro e w2 ⟨rfl, hF2⟩
      have hF3 := (HW.out.2.trans HF1.out).trans hF2
      cases bh with
      | false =>
        go_wp2_with fail
        go_ret
        refine ⟨?_, hF3⟩
        rw [← HANS.out, HW.out.1]
        rfl
      | true =>
        have hwk : True → wrap64 ((k : Int) + 1) = (k : Int) + 1 := fun _ => wrap_big (c := k + 1) (by omega)
        go_wp2_with fail
        refine ⟨⟨k + 1, rfl, hk2, hF3, ?_⟩, by simp [intOf]; omega⟩
        rw [HW.out.1]
        rfl
    · obtain rfl : k = ms.length := by omega
      have g1 : ¬ (ms.length : Int) < (ms.length : Int) := by omega
      rw [List.drop_of_length_le (Nat.le_refl _), HANS.out] at hw
      have HW := Lib.hid (And.intro hw hF)
      clear hw hF
      go_wp2_with fail
      go_ret
      exact ⟨by rw [HW.out.1]; rfl, HW.out.2⟩
end Go.Proofs.YtaniaknphjnlkaaGreatDoor
