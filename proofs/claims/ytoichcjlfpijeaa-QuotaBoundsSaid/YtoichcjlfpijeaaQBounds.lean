/- QuotaBounds: the walk. -/
import Derived.Test.YtoichcjlfpijeaaQAll2
import Derived.Test.YtoichcjlfpijeaaQPure
import Derived.Test.YtoichcjlfpijeaaQOpsAt
import Derived.OwnWalk
namespace Go.Proofs.Ytoichcjlfpijeaa
open Go.RowKit Go.Bl

theorem bounds_start {rate burst : Int} (h : goodSet rate burst 0) : BI rate burst (setS T0 0 sA rate burst 0 sA) 0 0 := by
  have hR : setR T0 0 sA rate burst 0 = 0 := by rw [setR, if_pos h, if_neg (by decide)]
  rw [setS, hR, if_pos rfl]
  refine ⟨Bk.new rate burst 0, by simp [setT], new_ok h, rfl, rfl, Int.le_refl _, by omega, Int.le_refl _, ?_⟩
  show 0 * 1000000000 + burst * 1000000000 + 0 ≤ burst * 1000000000 + 0 * rate
  omega

def BRel (rate burst : Int) (t len : Nat) (w : World) (nv tv iv : Value) (wr : World) : Prop :=
  ∃ (k : Nat) (nw tk : Int) (T' : ByteArray → Option Bk) (n' : Nat) (F' : List Nat), nv = .int .i64 nw ∧ tv = .int .i64 tk ∧ iv = .int .i64 k ∧ k ≤ len ∧ Tab wr t T' n' F' ∧ Fr [] w wr ∧ (∀ i ∈ F', w.heap.size ≤ i) ∧ BI rate burst (T' sA) nw tk

set_option maxRecDepth 100000 in
set_option maxHeartbeats 8000000 in
theorem bounds_any (rate burst : Int) (A : Option Addr) (len cap : Nat) (l : Nat → QOp) (w : World) (hl : OpsAt w A len l) :
    Calls Try.prog 3 #[.int .i64 rate, .int .i64 burst, .slice A len cap] w fun e w' => e = .returned (.bool true) ∧ Fr [] w w' := by
  have HL := Lib.hid hl
  have hmax := hl.max
  clear hl
  by_cases hg : goodSet rate burst 0
  · have hR : setR T0 0 sA rate burst 0 = 0 := by rw [setR, if_pos hg, if_neg (by decide)]
    have HR := Lib.hid hR
    have HB0 := Lib.hid (bounds_start hg)
    obtain ⟨r0, r1, b0, b1, _, _⟩ := hg
    clear hR
    go_enter Try.func3, Try.ntmps3
    go_wp2_with fail
    refine (new_tab w).mono ?_
    rintro e w1 ⟨hF1, t, F, rfl, hT1, hB1⟩
    go_wp2_with fail
    refine (set_any (T := T0) hT1 sA rate burst 0).mono ?_
    rintro e w2 ⟨he, hF2, F2, hT2, hB2⟩
    rw [HR.out] at he
    subst he
    have hB3 : ∀ i ∈ F2, w.heap.size ≤ i := fun i hi => by
      rcases hB2 i hi with h | h
      · exact hB1 i h
      · have := hF1.size; omega
    have hG2 := hF1.new hF2 hB1
    clear hF1 hF2 hB1 hB2 hT1
    go_wp2_with fail
    go_loopw [8, 9, 10] (fun nv tv iv wr => BRel rate burst t len w nv tv iv wr) (fun _ _ i _ => len - (intOf i).toNat)
    case atStart => exact ⟨0, 0, 0, _, _, F2, rfl, rfl, rfl, Nat.zero_le _, hT2, hG2, hB3, HB0.out⟩
    case round =>
      obtain ⟨k, nw, tk, T', n', F', rfl, rfl, rfl, hk, hT', hG', hB', hBI⟩ := hrel
      by_cases hlt : k < len
      · by_cases h200 : (k : Int) < 200
        · obtain ⟨ad, rfl, c0, c1, c2, c3, c4, c5⟩ := (HL.out.fr hG').op k hlt
          have hsp := World.cell?_spot c0
          have hb := BI_le hBI
          obtain ⟨n0, n1, t0, t1, _, _, _, _, _⟩ := hb
          by_cases hs : (l k).now < 0 ∨ 1073741824 < (l k).now ∨ 8589934592 < nw
          · have HREL := Lib.hid (show BRel rate burst t len w (.int .i64 nw) (.int .i64 tk) (.int .i64 ((k : Int) + 1)) wr from ⟨k + 1, nw, tk, T', n', F', rfl, rfl, by go_num, hlt, hT', hG', hB', hBI⟩)
            clear hT' hG' hB' hBI
            by_cases hs0 : (l k).now < 0
            · clear hs
              go_wp2_with fail
              exact ⟨HREL.out, by simp [intOf]; omega⟩
            · by_cases hs1 : 1073741824 < (l k).now
              · clear hs
                go_wp2_with fail
                exact ⟨HREL.out, by simp [intOf]; omega⟩
              · have hs2 : 8589934592 < nw := by omega
                clear hs
                go_wp2_with fail
                exact ⟨HREL.out, by simp [intOf]; omega⟩
          · have d0 : 0 ≤ (l k).now := by omega
            have d1 : (l k).now ≤ 1073741824 := by omega
            have d2 : nw ≤ 8589934592 := by omega
            have hBI2 := take_BI (c := (l k).cost) hBI d0 (by omega)
            clear hs hBI
            by_cases hz : takeR T' sA (l k).cost (nw + (l k).now) = 0
            · rw [if_pos hz] at hBI2
              have hb := BI_le hBI2
              obtain ⟨m0, m1, m2, m3, m4, m5, m6, m7, m8⟩ := hb
              have HZ := Lib.hid hz
              have HBI := Lib.hid hBI2
              clear hz hBI2
              go_wp2_with fail
              refine (take_any hT' sA (l k).cost (nw + (l k).now)).mono ?_
              rintro e w3 ⟨he, hT3, hF3⟩
              rw [HZ.out] at he
              subst he
              obtain ⟨_, hq, c0, c1, c2, c3, c4, c5⟩ := (HL.out.fr (hG'.new hF3 hB')).op k hlt
              cases hq
              have HREL := Lib.hid (show BRel rate burst t len w (.int .i64 (nw + (l k).now)) (.int .i64 (tk + (l k).cost)) (.int .i64 ((k : Int) + 1)) w3 from ⟨k + 1, _, _, _, n', F', rfl, rfl, by go_num, hlt, hT3, hG'.new hF3 hB', hB', HBI.out⟩)
              clear hT' hT3 hF3 HBI
              go_wp2_with fail
              exact ⟨HREL.out, by simp [intOf]; omega⟩
            · rw [if_neg hz] at hBI2
              have hb := BI_le hBI2
              obtain ⟨m0, m1, m2, m3, m4, m5, m6, m7, m8⟩ := hb
              have hzb : (takeR T' sA (l k).cost (nw + (l k).now) == 0) = false := by simpa using hz
              have HBI := Lib.hid hBI2
              clear hz hBI2
              go_wp2_with fail
              refine (take_any hT' sA (l k).cost (nw + (l k).now)).mono ?_
              rintro e w3 ⟨rfl, hT3, hF3⟩
              have HREL := Lib.hid (show BRel rate burst t len w (.int .i64 (nw + (l k).now)) (.int .i64 tk) (.int .i64 ((k : Int) + 1)) w3 from ⟨k + 1, _, _, _, n', F', rfl, rfl, by go_num, hlt, hT3, hG'.new hF3 hB', hB', HBI.out⟩)
              clear hT' hT3 hF3 HBI
              go_wp2_with fail
              exact ⟨HREL.out, by simp [intOf]; omega⟩
        · go_wp2_with (go_at_call 12; refine (known_any _).mono ?_; rintro e w3 ⟨rfl, hF3⟩)
          go_ret
          exact ⟨rfl, hG'.trans hF3⟩
      · go_wp2_with (go_at_call 12; refine (known_any _).mono ?_; rintro e w3 ⟨rfl, hF3⟩)
        go_ret
        exact ⟨rfl, hG'.trans hF3⟩
  · have hR : setR T0 0 sA rate burst 0 = 1 := by rw [setR, if_neg hg]
    have HR := Lib.hid hR
    clear hR hg
    go_enter Try.func3, Try.ntmps3
    go_wp2_with fail
    refine (new_tab w).mono ?_
    rintro e w1 ⟨hF1, t, F, rfl, hT1, hB1⟩
    go_wp2_with fail
    refine (set_any (T := T0) hT1 sA rate burst 0).mono ?_
    rintro e w2 ⟨he, hF2, F2, hT2, hB2⟩
    rw [HR.out] at he
    subst he
    have hG2 := hF1.new hF2 hB1
    clear hF1 hF2 hB1 hB2 hT1
    go_wp2_with (go_at_call 12; refine (known_any _).mono ?_; rintro e w3 ⟨rfl, hF3⟩)
    go_ret
    exact ⟨rfl, hG2.trans hF3⟩
end Go.Proofs.Ytoichcjlfpijeaa
