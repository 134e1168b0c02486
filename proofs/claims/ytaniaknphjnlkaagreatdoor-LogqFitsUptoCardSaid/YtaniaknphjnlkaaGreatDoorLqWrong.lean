/- attr.wrong, attr.RightMatch. -/
import Derived.Test.YtaniaknphjnlkaaGreatDoorMf33
namespace Go.Proofs.YtaniaknphjnlkaaGreatDoor
open Go.RowKit Go.Bl Go.Lq

theorem signP_nil (n : Int) : (ByteArray.mk (signP n).toArray).toList.isEmpty = decide (n < 1 ∨ 4 < n) := by
  rw [empty_iff]
  apply decide_eq_decide.2
  show signP n = [] ↔ _
  unfold signP
  constructor
  · intro h
    repeat' split at h
    all_goals first | (cases h; done) | omega
  · intro h
    rw [if_neg (by omega), if_neg (by omega), if_neg (by omega), if_neg (by omega)]
theorem wrongM_cons (V : Bs → Bool) (m : Mt) (l : List Mt) : wrongM V (m :: l) = if m.op < 1 ∨ 4 < m.op then 42 else if !keyP m.key then 40 else if !plainP V m.val then 41 else wrongM V l := rfl
def WrRel (w : World) (l : List Mt) (iv : Value) (wr : World) : Prop :=
  ∃ k, iv = .int .i64 ((k : Nat) : Int) ∧ k ≤ l.length ∧ Fr [] w wr ∧ wrongM Lib.validD l = wrongM Lib.validD (l.drop k)

set_option maxRecDepth 100000 in
set_option maxHeartbeats 800000 in
theorem wrong_any (l : List Mt) (v : Value) (w : World) (hG : GV w) (h8 : 8 ≤ w.heap.size) (hl1 : l.length ≤ 1000) (hM : Mts w v l) :
    Calls Tryz.prog 53 #[v] w fun e w' => e = .returned (.int .i64 (wrongM Lib.validD l)) ∧ Fr [] w w' := by
  obtain ⟨A, cp, rfl, hl, hx⟩ := hM
  have HX := Lib.hid hx
  obtain ⟨ans, hans⟩ : ∃ ans, wrongM Lib.validD l = ans := ⟨_, rfl⟩
  rw [hans]
  have HANS := Lib.hid hans
  clear hx hans
  go_enter Tryz.func53, Tryz.ntmps53
  go_wp2_with fail
  go_loopw [7] (fun iv wr => WrRel w l iv wr) (fun iv _ => l.length - (intOf iv).toNat)
  case atStart => exact ⟨0, rfl, by omega, Fr.refl _ _, rfl⟩
  case round =>
    obtain ⟨k, rfl, hk, hF, hw⟩ := hrel
    by_cases hk2 : k < l.length
    · obtain ⟨ad, rfl, m0, m1, m2⟩ := HX.out k hk2
      have c0 := cell_frS hF m0 (by simp)
      have c1 := cell_frS hF m1 (by simp)
      have c2 := cell_frS hF m2 (by simp)
      have hsp := World.cell?_spot c0
      clear m0 m1 m2
      obtain ⟨m, hm⟩ : ∃ m, l[k] = m := ⟨_, rfl⟩
      rw [List.drop_eq_getElem_cons hk2] at hw
      rw [hm] at c0 c1 c2 hw
      rw [wrongM_cons, HANS.out] at hw
      obtain ⟨K, hK⟩ : ∃ K : ByteArray, ⟨m.key.toArray⟩ = K := ⟨_, rfl⟩
      obtain ⟨V, hV⟩ : ∃ V : ByteArray, ⟨m.val.toArray⟩ = V := ⟨_, rfl⟩
      obtain ⟨G, hGG⟩ : ∃ G : ByteArray, ⟨(signP m.op).toArray⟩ = G := ⟨_, rfl⟩
      rw [hK] at c1
      rw [hV] at c2
      have hkl : (k : Int) < (l.length : Int) := by omega
      have hk1 : k + 1 ≤ 100000 := by omega
      have hsg := sign_any m.op
      have hse := signP_nil m.op
      rw [hGG] at hsg hse
      have hKl : K.data.toList = m.key := by rw [← hK]
      have hVl : V.data.toList = m.val := by rw [← hV]
      have hF2 : Fr [] w (wr.alloc (.cells #[.int .i64 m.op, .string K, .string V] 56)) := hF.alloc _
      have hG2 := hG.below (B := 8) (hF2.below h8 (by simp)) (by omega)
      have hB := heap_alloc wr (.cells #[.int .i64 m.op, .string K, .string V] 56)
      have HW := Lib.hid (And.intro hw (And.intro hF2 hB))
      clear hw hF hF2 hB hm hK hV hGG
      by_cases ho : m.op < 1 ∨ 4 < m.op
      · rw [decide_eq_true ho] at hse
        have HO := Lib.hid ho
        clear ho
        go_wp2_with fail
        refine (hsg _).mono ?_
        rintro e w' ⟨rfl, rfl⟩
        go_wp2_with fail
        go_ret
        refine ⟨?_, HW.out.2.1⟩
        have := HW.out.1
        rw [if_pos HO.out] at this
        rw [this]
        rfl
      · rw [decide_eq_false ho] at hse
        have HO := Lib.hid ho
        clear ho
        have hka := key_anyA K
        rw [hKl] at hka
        obtain ⟨bk, hbk⟩ : ∃ bk, keyP m.key = bk := ⟨_, rfl⟩
        rw [hbk] at hka
        have HBK := Lib.hid hbk
        clear hbk
        go_wp2_with fail
        refine (hsg _).mono ?_
        rintro e w' ⟨rfl, rfl⟩
        go_wp2_with fail
        refine (hka _).mono ?_
        rintro e w' ⟨rfl, rfl⟩
        cases bk with
        | false =>
          go_wp2_with fail
          go_ret
          refine ⟨?_, HW.out.2.1⟩
          have := HW.out.1
          rw [if_neg HO.out, HBK.out] at this
          rw [this]
          rfl
        | true =>
          have hpl := plain_any V _ hG2
          rw [hVl] at hpl
          obtain ⟨bp, hbp⟩ : ∃ bp, plainP Lib.validD m.val = bp := ⟨_, rfl⟩
          rw [hbp] at hpl
          have HBP := Lib.hid hbp
          clear hbp
          go_wp2_with fail
          refine hpl.mono ?_
          rintro e w2 ⟨rfl, hF3⟩
          have hF4 := HW.out.2.1.trans hF3
          cases bp with
          | false =>
            go_wp2_with fail
            go_ret
            refine ⟨?_, hF4⟩
            have := HW.out.1
            rw [if_neg HO.out, HBK.out, HBP.out] at this
            rw [this]
            rfl
          | true =>
            have hwk : True → wrap64 ((k : Int) + 1) = (k : Int) + 1 := fun _ => wrap_sum (x := k) (c := 1) hk1
            go_wp2_with fail
            refine ⟨⟨k + 1, rfl, hk2, hF4, ?_⟩, by simp [intOf]; omega⟩
            have := HW.out.1
            rw [if_neg HO.out, HBK.out, HBP.out] at this
            rw [HANS.out, this]
            rfl
    · obtain rfl : k = l.length := by omega
      have g1 : ¬ (l.length : Int) < (l.length : Int) := by omega
      rw [List.drop_of_length_le (Nat.le_refl _), HANS.out] at hw
      have HW := Lib.hid (And.intro hw hF)
      clear hw hF
      go_wp2_with fail
      go_ret
      refine ⟨?_, HW.out.2⟩
      rw [HW.out.1]
      rfl
set_option maxRecDepth 100000 in
theorem rightMatch_any (l : List Mt) (v : Value) (w : World) (hG : GV w) (h8 : 8 ≤ w.heap.size) (hM : Mts w v l) :
    Calls Tryz.prog 30 #[v] w fun e w' => e = .returned (.int .i64 (rightM Lib.validD l)) ∧ Fr [] w w' := by
  obtain ⟨A, cp, rfl, hl, hx⟩ := id hM
  by_cases h : 8 < l.length
  · have hr : rightM Lib.validD l = 7 := by unfold rightM; rw [if_pos h]
    rw [hr]
    have h1 : (l.length : Int) > 8 := by omega
    clear hr hx hM
    go_enter Tryz.func30, Tryz.ntmps30
    go_wp2
    go_ret
    exact ⟨rfl, Fr.refl _ _⟩
  · have hr : rightM Lib.validD l = wrongM Lib.validD l := by unfold rightM; rw [if_neg h]
    rw [hr]
    have hw := wrong_any l _ w hG h8 (by omega) hM
    have h1 : ¬ (l.length : Int) > 8 := by omega
    obtain ⟨ans, hans⟩ : ∃ ans, wrongM Lib.validD l = ans := ⟨_, rfl⟩
    rw [hans] at hw ⊢
    clear hr hx hM hans
    go_enter Tryz.func30, Tryz.ntmps30
    go_wp2_with fail
    refine hw.mono ?_
    rintro e w' ⟨rfl, hF⟩
    go_wp2
    go_ret
    exact ⟨rfl, hF⟩
end Go.Proofs.YtaniaknphjnlkaaGreatDoor
