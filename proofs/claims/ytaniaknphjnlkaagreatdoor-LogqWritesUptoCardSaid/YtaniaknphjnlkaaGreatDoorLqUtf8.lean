/- The reference's Utf8. -/
import Derived.Test.YtaniaknphjnlkaaGreatDoorLqUtf8P
import Derived.Test.YtaniaknphjnlkaaGreatDoorMw34
import Derived.Deep.CutBlock
namespace Go.Proofs.YtaniaknphjnlkaaGreatDoor
open Go.RowKit Go.Bl Go.Lq

theorem drewN_fr' (w : World) (n : Nat) : Fr [] w (w.drewN n) := (Fr.refl _ _).drewN _
def UtRel (s : ByteArray) (w : World) (iv : Value) (wr : World) : Prop :=
  ∃ k n, iv = .int .i64 ((k : Nat) : Int) ∧ k ≤ s.size ∧ wr = w.drewN n ∧ Lib.validD s.data.toList = Lib.validD (s.data.toList.drop k)
/-- Behind the switch: how many, and between which. -/
def UtCut (W : World) (c : Nat) (s5 s6 s7 : Value) (wx : World) : Prop :=
  ∃ n lo hi : Nat, s5 = .int .i64 n ∧ s6 = .int .u8 lo ∧ s7 = .int .u8 hi ∧ (∃ d, wx = W.drewN d) ∧ lo < 256 ∧ hi < 256 ∧
    ((c < 128 ∧ n = 0) ∨ (128 ≤ c ∧ leadN c = n ∧ n ≠ 0 ∧ n ≤ 3 ∧ lo = leadLo c ∧ hi = leadHi c))
def UtIn (l : Bs) (c n : Nat) (W : World) (jv lov hiv : Value) (wr : World) : Prop :=
  ∃ j d, ∃ lo hi : Nat, jv = .int .i64 ((j : Nat) : Int) ∧ 1 ≤ j ∧ j ≤ n + 1 ∧ wr = W.drewN d ∧ lov = .int .u8 lo ∧ hiv = .int .u8 hi ∧ lo < 256 ∧ hi < 256 ∧
    (n ≠ 0 → lo = (if j = 1 then leadLo c else 128) ∧ hi = (if j = 1 then leadHi c else 191)) ∧ (∀ i, 1 ≤ i → i < j → okAt l c i)
theorem drop_getD (s : ByteArray) (k j : Nat) (h : k + j < s.size) : (s.data.toList.drop k).getD j 0 = s[k + j] := by
  rw [List.getD_eq_getElem?_getD, List.getElem?_drop, List.getElem?_eq_getElem (by rw [bytes_len]; exact h), Option.getD_some]
  exact byte_at s (k + j) h
set_option maxRecDepth 100000 in
set_option maxHeartbeats 800000 in
theorem utf8R_any (s : ByteArray) (hs : s.size ≤ 1024) (w : World) : Calls Tryz.prog 92 #[.string s] w fun e w' => e = .returned (.bool (Lib.validD s.data.toList)) ∧ Fr [] w w' := by
  obtain ⟨ans, hans⟩ : ∃ ans, Lib.validD s.data.toList = ans := ⟨_, rfl⟩
  rw [hans]
  have HANS := Lib.hid hans
  clear hans
  go_enter Tryz.func92, Tryz.ntmps92
  go_wp2_with fail
  go_loopw [3] (fun iv wr => UtRel s w iv wr) (fun iv _ => s.size - (intOf iv).toNat)
  case atStart => exact ⟨0, 0, rfl, Nat.zero_le _, rfl, rfl⟩
  case round =>
    obtain ⟨k, nd, rfl, hk, rfl, hv⟩ := hrel
    by_cases hk2 : k < s.size
    · have g3 : (k : Int) < (s.size : Int) := by omega
      have g4 : (0 : Int) ≤ (k : Int) ∧ (k : Int) < (s.size : Int) := by omega
      obtain ⟨c, hsc⟩ : ∃ c, s[k] = c := ⟨_, rfl⟩
      obtain ⟨l, hl⟩ : ∃ l, s.data.toList.drop k = l := ⟨_, rfl⟩
      have hll : l.length = s.size - k := by rw [← hl, List.length_drop, bytes_len]
      have hne : l ≠ [] := fun e => by rw [e] at hll; simp only [List.length_nil] at hll; omega
      have hc0 : c.toNat = (l.getD 0 0).toNat := by rw [← hl, drop_getD s k 0 (by omega)]; simp [hsc]
      rw [hl] at hv
      have HV := Lib.hid (And.intro hv (And.intro hl (And.intro hll (And.intro hne hc0))))
      have hcl := UInt8.toNat_lt c
      clear hv hl hll hne hc0
      go_upto_block 2 with fail
      go_cut [5, 6, 7] (fun s5 s6 s7 wx => UtCut (w.drewN nd) c.toNat s5 s6 s7 wx)
      case first =>
        obtain ⟨m, hm⟩ : ∃ m, c.toNat = m := ⟨_, rfl⟩
        rw [hm] at hcl
        have hcl2 : (0 ≤ m ∧ m ≤ 127) ∨ (128 ≤ m ∧ m ≤ 193) ∨ (194 ≤ m ∧ m ≤ 223) ∨ (224 ≤ m ∧ m ≤ 224) ∨ (225 ≤ m ∧ m ≤ 236) ∨ (237 ≤ m ∧ m ≤ 237) ∨ (238 ≤ m ∧ m ≤ 239) ∨ (240 ≤ m ∧ m ≤ 240) ∨ (241 ≤ m ∧ m ≤ 243) ∨ (244 ≤ m ∧ m ≤ 244) ∨ (245 ≤ m ∧ m ≤ 255) := by omega
        rcases hcl2 with hc | hc | hc | hc | hc | hc | hc | hc | hc | hc | hc
        · have f0 : (c.toNat : Int) < 128 := by omega
          have hcut : UtCut (w.drewN nd) c.toNat (.int .i64 ((0 : Nat) : Int)) (.int .u8 ((128 : Nat) : Int)) (.int .u8 ((191 : Nat) : Int)) (w.drewN nd) := ⟨0, 128, 191, rfl, rfl, rfl, ⟨0, rfl⟩, by omega, by omega, .inl ⟨by omega, rfl⟩⟩
          have HCUT := Lib.hid hcut
          clear hcut hc hm
          go_wp2_with fail
          go_meet
          exact HCUT.out
        · have f0 : ¬ (c.toNat : Int) < 128 := by omega
          have f1 : ¬ (c.toNat : Int) ≥ 194 := by omega
          have f2 : ¬ (c.toNat : Int) ≥ 224 := by omega
          have f3 : ¬ (c.toNat : Int) ≥ 240 := by omega
          have hbad : leadN c.toNat = 0 := by rw [hm]; unfold leadN; (repeat' split) <;> omega
          have h128 : 128 ≤ c.toNat := by omega
          have HB := Lib.hid (And.intro hbad h128)
          clear hbad hc hm
          go_wp2_with fail
          go_ret
          refine ⟨?_, drewN_fr' _ _⟩
          rw [← HANS.out, HV.out.1, utf_bad HV.out.2.2.2.2 HV.out.2.2.2.1 HB.out.2 HB.out.1]
          rfl
        · have f0 : ¬ (c.toNat : Int) < 128 := by omega
          have f1 : (c.toNat : Int) ≥ 194 := by omega
          have f2 : (c.toNat : Int) ≤ 223 := by omega
          have hcut : ∀ d, UtCut (w.drewN nd) c.toNat (.int .i64 ((1 : Nat) : Int)) (.int .u8 ((128 : Nat) : Int)) (.int .u8 ((191 : Nat) : Int)) ((w.drewN nd).drewN d) := fun d => ⟨1, 128, 191, rfl, rfl, rfl, ⟨d, rfl⟩, by omega, by omega, .inr ⟨by omega, by rw [hm]; unfold leadN; (repeat' split) <;> omega, by omega, by omega, by rw [hm]; unfold leadLo; (repeat' split) <;> omega, by rw [hm]; unfold leadHi; (repeat' split) <;> omega⟩⟩
          have HCUT := Lib.hid hcut
          clear hcut hc hm
          go_wp2_with fail
          go_meet
          exact HCUT.out 0
        · have f0 : ¬ (c.toNat : Int) < 128 := by omega
          have f1 : (c.toNat : Int) ≥ 194 := by omega
          have f2 : ¬ (c.toNat : Int) ≤ 223 := by omega
          have f3 : (c.toNat : Int) ≥ 224 := by omega
          have f4 : (c.toNat : Int) ≤ 239 := by omega
          have e224 : ((c.toNat : Int) == 224) = true := by simp; omega
          have e237 : ((c.toNat : Int) == 237) = false := by simp; omega
          have hcut : ∀ d, UtCut (w.drewN nd) c.toNat (.int .i64 ((2 : Nat) : Int)) (.int .u8 ((160 : Nat) : Int)) (.int .u8 ((191 : Nat) : Int)) ((w.drewN nd).drewN d) := fun d => ⟨2, 160, 191, rfl, rfl, rfl, ⟨d, rfl⟩, by omega, by omega, .inr ⟨by omega, by rw [hm]; unfold leadN; (repeat' split) <;> omega, by omega, by omega, by rw [hm]; unfold leadLo; (repeat' split) <;> omega, by rw [hm]; unfold leadHi; (repeat' split) <;> omega⟩⟩
          have HCUT := Lib.hid hcut
          clear hcut hc hm
          go_wp2_with fail
          go_meet
          exact HCUT.out 0
        · have f0 : ¬ (c.toNat : Int) < 128 := by omega
          have f1 : (c.toNat : Int) ≥ 194 := by omega
          have f2 : ¬ (c.toNat : Int) ≤ 223 := by omega
          have f3 : (c.toNat : Int) ≥ 224 := by omega
          have f4 : (c.toNat : Int) ≤ 239 := by omega
          have e224 : ((c.toNat : Int) == 224) = false := by simp; omega
          have e237 : ((c.toNat : Int) == 237) = false := by simp; omega
          have hcut : ∀ d, UtCut (w.drewN nd) c.toNat (.int .i64 ((2 : Nat) : Int)) (.int .u8 ((128 : Nat) : Int)) (.int .u8 ((191 : Nat) : Int)) ((w.drewN nd).drewN d) := fun d => ⟨2, 128, 191, rfl, rfl, rfl, ⟨d, rfl⟩, by omega, by omega, .inr ⟨by omega, by rw [hm]; unfold leadN; (repeat' split) <;> omega, by omega, by omega, by rw [hm]; unfold leadLo; (repeat' split) <;> omega, by rw [hm]; unfold leadHi; (repeat' split) <;> omega⟩⟩
          have HCUT := Lib.hid hcut
          clear hcut hc hm
          go_wp2_with fail
          go_meet
          exact HCUT.out 0
        · have f0 : ¬ (c.toNat : Int) < 128 := by omega
          have f1 : (c.toNat : Int) ≥ 194 := by omega
          have f2 : ¬ (c.toNat : Int) ≤ 223 := by omega
          have f3 : (c.toNat : Int) ≥ 224 := by omega
          have f4 : (c.toNat : Int) ≤ 239 := by omega
          have e224 : ((c.toNat : Int) == 224) = false := by simp; omega
          have e237 : ((c.toNat : Int) == 237) = true := by simp; omega
          have hcut : ∀ d, UtCut (w.drewN nd) c.toNat (.int .i64 ((2 : Nat) : Int)) (.int .u8 ((128 : Nat) : Int)) (.int .u8 ((159 : Nat) : Int)) ((w.drewN nd).drewN d) := fun d => ⟨2, 128, 159, rfl, rfl, rfl, ⟨d, rfl⟩, by omega, by omega, .inr ⟨by omega, by rw [hm]; unfold leadN; (repeat' split) <;> omega, by omega, by omega, by rw [hm]; unfold leadLo; (repeat' split) <;> omega, by rw [hm]; unfold leadHi; (repeat' split) <;> omega⟩⟩
          have HCUT := Lib.hid hcut
          clear hcut hc hm
          go_wp2_with fail
          go_meet
          exact HCUT.out 0
        · have f0 : ¬ (c.toNat : Int) < 128 := by omega
          have f1 : (c.toNat : Int) ≥ 194 := by omega
          have f2 : ¬ (c.toNat : Int) ≤ 223 := by omega
          have f3 : (c.toNat : Int) ≥ 224 := by omega
          have f4 : (c.toNat : Int) ≤ 239 := by omega
          have e224 : ((c.toNat : Int) == 224) = false := by simp; omega
          have e237 : ((c.toNat : Int) == 237) = false := by simp; omega
          have hcut : ∀ d, UtCut (w.drewN nd) c.toNat (.int .i64 ((2 : Nat) : Int)) (.int .u8 ((128 : Nat) : Int)) (.int .u8 ((191 : Nat) : Int)) ((w.drewN nd).drewN d) := fun d => ⟨2, 128, 191, rfl, rfl, rfl, ⟨d, rfl⟩, by omega, by omega, .inr ⟨by omega, by rw [hm]; unfold leadN; (repeat' split) <;> omega, by omega, by omega, by rw [hm]; unfold leadLo; (repeat' split) <;> omega, by rw [hm]; unfold leadHi; (repeat' split) <;> omega⟩⟩
          have HCUT := Lib.hid hcut
          clear hcut hc hm
          go_wp2_with fail
          go_meet
          exact HCUT.out 0
        · have f0 : ¬ (c.toNat : Int) < 128 := by omega
          have f1 : (c.toNat : Int) ≥ 194 := by omega
          have f2 : ¬ (c.toNat : Int) ≤ 223 := by omega
          have f3 : (c.toNat : Int) ≥ 224 := by omega
          have f4 : ¬ (c.toNat : Int) ≤ 239 := by omega
          have f5 : (c.toNat : Int) ≥ 240 := by omega
          have f6 : (c.toNat : Int) ≤ 244 := by omega
          have e240 : ((c.toNat : Int) == 240) = true := by simp; omega
          have e244 : ((c.toNat : Int) == 244) = false := by simp; omega
          have hcut : ∀ d, UtCut (w.drewN nd) c.toNat (.int .i64 ((3 : Nat) : Int)) (.int .u8 ((144 : Nat) : Int)) (.int .u8 ((191 : Nat) : Int)) ((w.drewN nd).drewN d) := fun d => ⟨3, 144, 191, rfl, rfl, rfl, ⟨d, rfl⟩, by omega, by omega, .inr ⟨by omega, by rw [hm]; unfold leadN; (repeat' split) <;> omega, by omega, by omega, by rw [hm]; unfold leadLo; (repeat' split) <;> omega, by rw [hm]; unfold leadHi; (repeat' split) <;> omega⟩⟩
          have HCUT := Lib.hid hcut
          clear hcut hc hm
          go_wp2_with fail
          go_meet
          exact HCUT.out 0
        · have f0 : ¬ (c.toNat : Int) < 128 := by omega
          have f1 : (c.toNat : Int) ≥ 194 := by omega
          have f2 : ¬ (c.toNat : Int) ≤ 223 := by omega
          have f3 : (c.toNat : Int) ≥ 224 := by omega
          have f4 : ¬ (c.toNat : Int) ≤ 239 := by omega
          have f5 : (c.toNat : Int) ≥ 240 := by omega
          have f6 : (c.toNat : Int) ≤ 244 := by omega
          have e240 : ((c.toNat : Int) == 240) = false := by simp; omega
          have e244 : ((c.toNat : Int) == 244) = false := by simp; omega
          have hcut : ∀ d, UtCut (w.drewN nd) c.toNat (.int .i64 ((3 : Nat) : Int)) (.int .u8 ((128 : Nat) : Int)) (.int .u8 ((191 : Nat) : Int)) ((w.drewN nd).drewN d) := fun d => ⟨3, 128, 191, rfl, rfl, rfl, ⟨d, rfl⟩, by omega, by omega, .inr ⟨by omega, by rw [hm]; unfold leadN; (repeat' split) <;> omega, by omega, by omega, by rw [hm]; unfold leadLo; (repeat' split) <;> omega, by rw [hm]; unfold leadHi; (repeat' split) <;> omega⟩⟩
          have HCUT := Lib.hid hcut
          clear hcut hc hm
          go_wp2_with fail
          go_meet
          exact HCUT.out 0
        · have f0 : ¬ (c.toNat : Int) < 128 := by omega
          have f1 : (c.toNat : Int) ≥ 194 := by omega
          have f2 : ¬ (c.toNat : Int) ≤ 223 := by omega
          have f3 : (c.toNat : Int) ≥ 224 := by omega
          have f4 : ¬ (c.toNat : Int) ≤ 239 := by omega
          have f5 : (c.toNat : Int) ≥ 240 := by omega
          have f6 : (c.toNat : Int) ≤ 244 := by omega
          have e240 : ((c.toNat : Int) == 240) = false := by simp; omega
          have e244 : ((c.toNat : Int) == 244) = true := by simp; omega
          have hcut : ∀ d, UtCut (w.drewN nd) c.toNat (.int .i64 ((3 : Nat) : Int)) (.int .u8 ((128 : Nat) : Int)) (.int .u8 ((143 : Nat) : Int)) ((w.drewN nd).drewN d) := fun d => ⟨3, 128, 143, rfl, rfl, rfl, ⟨d, rfl⟩, by omega, by omega, .inr ⟨by omega, by rw [hm]; unfold leadN; (repeat' split) <;> omega, by omega, by omega, by rw [hm]; unfold leadLo; (repeat' split) <;> omega, by rw [hm]; unfold leadHi; (repeat' split) <;> omega⟩⟩
          have HCUT := Lib.hid hcut
          clear hcut hc hm
          go_wp2_with fail
          go_meet
          exact HCUT.out 0
        · have f0 : ¬ (c.toNat : Int) < 128 := by omega
          have f1 : (c.toNat : Int) ≥ 194 := by omega
          have f2 : ¬ (c.toNat : Int) ≤ 223 := by omega
          have f3 : (c.toNat : Int) ≥ 224 := by omega
          have f4 : ¬ (c.toNat : Int) ≤ 239 := by omega
          have f5 : (c.toNat : Int) ≥ 240 := by omega
          have f6 : ¬ (c.toNat : Int) ≤ 244 := by omega
          have hbad : leadN c.toNat = 0 := by rw [hm]; unfold leadN; (repeat' split) <;> omega
          have h128 : 128 ≤ c.toNat := by omega
          have HB := Lib.hid (And.intro hbad h128)
          clear hbad hc hm
          go_wp2_with fail
          go_ret
          refine ⟨?_, drewN_fr' _ _⟩
          rw [← HANS.out, HV.out.1, utf_bad HV.out.2.2.2.2 HV.out.2.2.2.1 HB.out.2 HB.out.1]
          rfl
      case rest =>
        obtain ⟨nn, lo, hi, rfl, rfl, rfl, ⟨dd, rfl⟩, hlo, hhi, hcs⟩ := hcut
        have hnn : nn ≤ 3 := by rcases hcs with ⟨_, h⟩ | ⟨_, _, _, h, _⟩ <;> omega
        have HCS := Lib.hid hcs
        clear hcs
        by_cases hsh : s.size ≤ k + nn
        · have f0 : (nn : Int) ≥ (s.size : Int) - (k : Int) := by omega
          have HSH := Lib.hid hsh
          clear hsh
          go_wp2_with fail
          go_ret
          refine ⟨?_, drewN_fr' _ _⟩
          have h128 : 128 ≤ c.toNat ∧ leadN c.toNat = nn := by
            have h1 := HSH.out
            rcases HCS.out with ⟨_, h⟩ | ⟨h, h', _⟩
            · omega
            · exact ⟨h, h'⟩
          rw [← HANS.out, HV.out.1, utf_short HV.out.2.2.2.2 HV.out.2.2.2.1 h128.1 (by rw [h128.2, HV.out.2.2.1]; have h1 := HSH.out; omega)]
          rfl
        · have f0 : ¬ (nn : Int) ≥ (s.size : Int) - (k : Int) := by omega
          have hlen : k + nn < s.size := by omega
          clear hsh
          go_wp2_with fail
          go_loopw [8, 6, 7] (fun jv lov hiv wr => UtIn l c.toNat nn w jv lov hiv wr) (fun jv _ _ _ => nn + 1 - (intOf jv).toNat)
          case atStart => exact ⟨1, _, lo, hi, rfl, by omega, by omega, rfl, rfl, rfl, hlo, hhi, fun h => by rcases HCS.out with ⟨_, h'⟩ | ⟨_, _, _, _, h1, h2⟩; (· omega); exact ⟨by rw [if_pos rfl]; exact h1, by rw [if_pos rfl]; exact h2⟩, fun i h1 h2 => by omega⟩
          case round =>
            obtain ⟨j, dj, lo2, hi2, rfl, hj1, hj2, rfl, rfl, rfl, hlo2, hhi2, hlh, hok⟩ := hrel
            have HLH := Lib.hid (And.intro hlh hok)
            clear hlh hok
            by_cases hjn : j ≤ nn
            · have f1 : (j : Int) ≤ (nn : Int) := by omega
              have hp1 : k + j < s.size := by omega
              have f2 : (0 : Int) ≤ (k : Int) + (j : Int) ∧ (k : Int) + (j : Int) < (s.size : Int) := by omega
              obtain ⟨b, hb⟩ : ∃ b, s[k + j] = b := ⟨_, rfl⟩
              have hbl : l.getD j 0 = b := by
                rw [← HV.out.2.1, drop_getD s k j (by omega), ← hb]
              have HP := Lib.hid hbl
              clear hbl
              have hiff : (lo2 ≤ b.toNat ∧ b.toNat ≤ hi2) ↔ okAt l c.toNat j := by
                unfold okAt
                have h1 := HLH.out.1 (by omega)
                rw [HP.out, ← h1.1, ← h1.2]
              have HIFF := Lib.hid hiff
              clear hiff
              have hbad : ¬ okAt l c.toNat j → Lib.validD s.data.toList = false := by
                intro h
                have h128 : 128 ≤ c.toNat ∧ leadN c.toNat = nn := by
                  rcases HCS.out with ⟨_, h⟩ | ⟨h, h', _⟩
                  · omega
                  · exact ⟨h, h'⟩
                rw [HV.out.1, utf_cont HV.out.2.2.2.2 HV.out.2.2.2.1 h128.1 j hj1 (by rw [h128.2]; exact hjn) h]
              have HBAD := Lib.hid hbad
              clear hbad
              by_cases q1 : b.toNat < lo2
              · go_wp2_with fail
                go_ret
                refine ⟨?_, drewN_fr' _ _⟩
                rw [← HANS.out, HBAD.out (fun h => by have := HIFF.out.2 h; omega)]
                rfl
              · by_cases q2 : hi2 < b.toNat
                · go_wp2_with fail
                  go_ret
                  refine ⟨?_, drewN_fr' _ _⟩
                  rw [← HANS.out, HBAD.out (fun h => by have := HIFF.out.2 h; omega)]
                  rfl
                · go_wp2_with fail
                  refine ⟨⟨j + 1, _, 128, 191, rfl, by omega, by omega, rfl, rfl, rfl, by omega, by omega, fun _ => ⟨by rw [if_neg (by omega)], by rw [if_neg (by omega)]⟩, fun i h1 h2 => ?_⟩, by simp [intOf]; omega⟩
                  rcases (by omega : i < j ∨ i = j) with h | h
                  · exact HLH.out.2 i h1 h
                  · subst h
                    exact HIFF.out.1 ⟨by omega, by omega⟩
            · obtain rfl : j = nn + 1 := by omega
              have f1 : ¬ ((nn + 1 : Nat) : Int) ≤ (nn : Int) := by omega
              go_wp2_with fail
              refine ⟨⟨k + nn + 1, _, congrArg (Value.int .i64) (by omega), by omega, rfl, ?_⟩, by simp [intOf]; omega⟩
              have hdr : s.data.toList.drop (k + nn + 1) = l.drop (nn + 1) := by
                rw [← HV.out.2.1, List.drop_drop]
                congr 1
              rw [HV.out.1, hdr]
              rcases HCS.out with ⟨h1, h2⟩ | ⟨h1, h2, h3, _⟩
              · subst h2
                have hl1 := HV.out.2.2.2.1
                have hc0 := HV.out.2.2.2.2
                cases hl : l with
                | nil => exact absurd hl hl1
                | cons y ys =>
                  rw [hl] at hc0
                  have hy : c.toNat = y.toNat := by simpa using hc0
                  rw [Lib.validD_cons y ys (by omega)]
                  rfl
              · rw [← h2]
                exact utf_all HV.out.2.2.2.2 HV.out.2.2.2.1 h1 (by omega) (by rw [HV.out.2.2.1]; omega) (fun i hi1 hi2 => HLH.out.2 i hi1 (by omega))
    · obtain rfl : k = s.size := by omega
      have g3 : ¬ (s.size : Int) < (s.size : Int) := by omega
      rw [List.drop_of_length_le (by rw [bytes_len]; exact Nat.le_refl _), HANS.out] at hv
      have HA := Lib.hid hv
      clear hv
      go_wp2_with fail
      go_ret
      refine ⟨?_, drewN_fr' _ _⟩
      rw [HA.out]
      rfl
end Go.Proofs.YtaniaknphjnlkaaGreatDoor
