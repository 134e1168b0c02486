/- The reference's MatchText. -/
import Derived.Test.YtaniaknphjnlkaaGreatDoorLqRQuote
import Derived.Test.YtaniaknphjnlkaaGreatDoorMw16
import Derived.Test.YtaniaknphjnlkaaGreatDoorMw15
import Derived.Deep.DeepCutAuto
namespace Go.Proofs.YtaniaknphjnlkaaGreatDoor
open Go.RowKit Go.Bl Go.Lq

theorem mtText_len {m : Mt} (h : m.key.length ≤ 1024 ∧ m.val.length ≤ 1024) : (mtText m).length ≤ 4000 := by
  have h2 := signP_len m.op
  have h3 := quoteP_len m.val
  unfold mtText
  rw [List.length_append, List.length_append]
  omega
theorem openP_len {l : List Mt} (h : ∀ m ∈ l, m.key.length ≤ 1024 ∧ m.val.length ≤ 1024) : (openP l).length ≤ 1 + l.length * 4002 := by
  have hc : ∀ l : List Mt, (∀ m ∈ l, m.key.length ≤ 1024 ∧ m.val.length ≤ 1024) → (commaP l).length ≤ l.length * 4002 := by
    intro l
    induction l with
    | nil => intro _; simp [commaP]
    | cons x xs ih =>
      intro h
      have h1 := ih (fun m hm => h m (by simp [hm]))
      have h2 := mtText_len (h x (by simp))
      simp only [commaP, List.length_cons, List.length_append]
      omega
  cases l with
  | nil => simp [openP]
  | cons x xs =>
    have h1 := hc xs (fun m hm => h m (by simp [hm]))
    have h2 := mtText_len (h x (by simp))
    simp only [openP, List.length_cons, List.length_append]
    omega
def MTR (l : List Mt) (w : World) (iv sv : Value) (wr : World) : Prop :=
  ∃ k, iv = .int .i64 ((k : Nat) : Int) ∧ k ≤ l.length ∧ sv = .string ⟨(openP (l.take k)).toArray⟩ ∧ Fr [] w wr
set_option maxRecDepth 100000 in
set_option maxHeartbeats 800000 in
theorem matchTextR_any (l : List Mt) (hS : Short l) (v : Value) (w : World) (hM : Mts w v l) :
    Calls Tryz.prog 50 #[v] w fun e w' => e = .returned (.string ⟨(matchText l).toArray⟩) ∧ Fr [] w w' := by
  obtain ⟨A, cp, rfl, hl, hx⟩ := hM
  have hlen := hS.1
  have HX := Lib.hid hx
  clear hx
  go_enter Tryz.func50, Tryz.ntmps50
  go_wp2_with fail
  go_loopw [4, 3] (fun iv sv wr => MTR l w iv sv wr) (fun iv _ _ => l.length - (intOf iv).toNat)
  case atStart => exact ⟨0, rfl, by omega, rfl, Fr.refl _ _⟩
  case round =>
    obtain ⟨k, rfl, hk, rfl, hF⟩ := hrel
    have hol := openP_len (l := l.take k) (fun m hm => hS.2 m (List.mem_of_mem_take hm))
    rw [List.length_take] at hol
    obtain ⟨S, hSS⟩ : ∃ S : ByteArray, ⟨(openP (l.take k)).toArray⟩ = S := ⟨_, rfl⟩
    have sS : S.size ≤ 8000000 := by rw [← hSS, bs_size]; omega
    rw [hSS]
    by_cases hk2 : k < l.length
    · obtain ⟨ad, rfl, m0, m1, m2⟩ := HX.out k hk2
      have c0 := cell_frS hF m0 (by simp)
      have c1 := cell_frS hF m1 (by simp)
      have c2 := cell_frS hF m2 (by simp)
      have hsp := World.cell?_spot c0
      clear m0 m1 m2
      obtain ⟨m, hm⟩ : ∃ m, l[k] = m := ⟨_, rfl⟩
      rw [hm] at c0 c1 c2
      have hsh := hS.2 m (by rw [← hm]; exact List.getElem_mem _)
      have hsnoc : openP (l.take (k + 1)) = openP (l.take k) ++ ((if l.take k = [] then [] else [44, 32]) ++ mtText m) := by
        rw [List.take_add_one, List.getElem?_eq_getElem hk2, hm]
        exact openP_snoc _ _
      obtain ⟨K, hK⟩ : ∃ K : ByteArray, ⟨m.key.toArray⟩ = K := ⟨_, rfl⟩
      obtain ⟨V, hV⟩ : ∃ V : ByteArray, ⟨m.val.toArray⟩ = V := ⟨_, rfl⟩
      obtain ⟨G, hG⟩ : ∃ G : ByteArray, ⟨(signP m.op).toArray⟩ = G := ⟨_, rfl⟩
      obtain ⟨Z, hZ⟩ : ∃ Z : ByteArray, ⟨(quoteP m.val).toArray⟩ = Z := ⟨_, rfl⟩
      obtain ⟨P1, hP1⟩ : ∃ P1 : ByteArray, ByteArray.mk (openP (l.take k) ++ (if l.take k = [] then [] else [44, 32])).toArray = P1 := ⟨_, rfl⟩
      have sK : K.size ≤ 1024 := by rw [← hK, bs_size]; exact hsh.1
      have sV : V.size ≤ 1024 := by rw [← hV, bs_size]; exact hsh.2
      have sG : G.size ≤ 2 := by rw [← hG, bs_size]; exact signP_len _
      have sZ : Z.size ≤ 3000 := by rw [← hZ, bs_size]; have := quoteP_len m.val; omega
      have sP : P1.size ≤ 8000002 := by
        rw [← hP1, bs_size, List.length_append]
        have h1 : (openP (l.take k)).length ≤ 8000000 := by rw [← hSS, bs_size] at sS; exact sS
        split <;> simp <;> omega
      rw [hK] at c1
      rw [hV] at c2
      have hqt := quoteR_any V sV
      rw [show V.data.toList = m.val by rw [← hV], hZ] at hqt
      have hk1 : k + 1 ≤ 100000 := by omega
      have hkl : (k : Int) < (l.length : Int) := by omega
      have hcat : (P1 ++ K ++ G ++ Z) = ⟨(openP (l.take (k + 1))).toArray⟩ := by
        apply bs_ext
        rw [hsnoc, ← hP1, ← hK, ← hG, ← hZ]
        simp [mtText]
      have hP0 : l.take k = [] → P1 = S := by
        intro h
        rw [← hP1, ← hSS, if_pos h, List.append_nil]
      have hP2 : l.take k ≠ [] → P1 = S ++ ⟨#[44, 32]⟩ := by
        intro h
        rw [← hP1, ← hSS, if_neg h]
        apply bs_ext
        simp
      have htk : l.take k = [] ↔ k = 0 := by
        rw [List.take_eq_nil_iff]
        constructor
        · rintro (h | h)
          · exact h
          · rw [h] at hk2; simp at hk2
        · exact .inl
      rw [ne_eq, htk] at hP2
      rw [htk] at hP0
      have HH := Lib.hid (And.intro hcat (And.intro hF (And.intro hP0 (And.intro hP2 hG))))
      clear hcat hF hP0 hP2 htk hsnoc hK hV hG hZ hP1 hSS hsh hm hol
      obtain ⟨op, hop⟩ : ∃ op, m.op = op := ⟨_, rfl⟩
      rw [hop] at c0
      have HOP := Lib.hid hop
      clear hop
      go_upto_if 13 with fail
      go_cut [3] (fun s3 wx => s3 = .string P1 ∧ Fr [] wr wx)
      case first =>
        have g0 : ¬ 9223372036854775807 < S.size + 2 := by omega
        by_cases hk0 : k = 0
        · have e1 := HH.out.2.2.1 hk0
          have g1 : ¬ (k : Int) > 0 := by omega
          have g2 : ¬ k > 0 := by omega
          have E1 := Lib.hid e1
          clear e1 hk0
          go_wp2_with fail
          go_meet
          exact ⟨by rw [E1.out], Fr.refl _ _⟩
        · have e1 := HH.out.2.2.2.1 hk0
          have g1 : (k : Int) > 0 := by omega
          have g2 : k > 0 := by omega
          have E1 := Lib.hid e1
          clear e1 hk0
          go_wp2_with fail
          go_meet
          exact ⟨by rw [E1.out], Fr.refl _ _⟩
      case rest =>
        obtain ⟨rfl, hFc⟩ := hcut
        have d0 := cell_frS hFc c0 (by simp)
        have d1 := cell_frS hFc c1 (by simp)
        have d2 := cell_frS hFc c2 (by simp)
        have HFc := Lib.hid hFc
        clear hFc c0 c1 c2
        obtain ⟨wd, rfl⟩ : ∃ wd, wd = wc := ⟨_, rfl⟩
        obtain ⟨bo, hbo⟩ : ∃ bo, decide (1 ≤ op ∧ op ≤ 4) = bo := ⟨_, rfl⟩
        have HBO := Lib.hid hbo
        clear hbo
        go_upto_region 8 with fail
        go_cut [29] (fun s29 wx => s29 = .bool bo ∧ wx = wd)
        case first =>
          by_cases o1 : op ≥ 1
          · by_cases o2 : op ≤ 4
            · go_wp2_with fail
              go_meet
              exact ⟨by rw [← HBO.out, decide_eq_true (by omega)], rfl⟩
            · go_wp2_with fail
              go_meet
              exact ⟨by rw [← HBO.out, decide_eq_false (by omega)], rfl⟩
          · go_wp2_with fail
            go_meet
            exact ⟨by rw [← HBO.out, decide_eq_false (by omega)], rfl⟩
        case rest =>
          obtain ⟨rfl, rfl⟩ := hcut
          obtain ⟨wd, rfl⟩ : ∃ wd, wd = wc := ⟨_, rfl⟩
          go_upto_if 29 with fail
          go_cut [5] (fun s5 wx => s5 = .string G ∧ Fr [] wd wx)
          case first =>
            cases bo with
            | false =>
              go_wp2_with fail
              go_meet
              have ho := of_decide_eq_false HBO.out
              have hs : signP op = [] := by unfold signP; rw [if_neg (by omega), if_neg (by omega), if_neg (by omega), if_neg (by omega)]
              exact ⟨by rw [← HH.out.2.2.2.2, HOP.out, hs], Fr.refl _ _⟩
            | true =>
              have ho := of_decide_eq_true HBO.out
              rcases (by omega : op = 1 ∨ op = 2 ∨ op = 3 ∨ op = 4) with rfl | rfl | rfl | rfl
              all_goals
                clear ho
                have d0a := cell_frS ((Fr.refl [] wd).alloc (.cells #[.string ⟨#[]⟩, .string ⟨#[61]⟩, .string ⟨#[33, 61]⟩, .string ⟨#[61, 126]⟩, .string ⟨#[33, 126]⟩] 9)) d0 (by simp)
                go_wp2_with fail
                go_meet
                exact ⟨by rw [← HH.out.2.2.2.2, HOP.out]; rfl, (Fr.refl _ _).alloc _⟩
          case rest =>
            obtain ⟨rfl, hFd⟩ := hcut
            have e1 := cell_frS hFd d1 (by simp)
            have e2 := cell_frS hFd d2 (by simp)
            have hFe := HFc.out.trans hFd
            have HFe := Lib.hid hFe
            have g3 : ¬ 9223372036854775807 < P1.size + K.size := by omega
            have g4 : ¬ 9223372036854775807 < P1.size + K.size + G.size := by omega
            have g5 : ¬ 9223372036854775807 < P1.size + K.size + G.size + Z.size := by omega
            clear hFe hFd d0 d1 d2
            go_wp2_with fail
            go_region_law (go_simp; go_at_call 52; refine (hqt _).mono ?_; rintro e w1 ⟨rfl, hF1⟩; have j1 := cell_frS hF1.of_drew e1 (by simp); have j2 := cell_frS hF1.of_drew e2 (by simp); have HF1 := Lib.hid hF1.of_drew; clear hF1)
            all_goals
              go_wp2_with fail
              refine ⟨⟨k + 1, rfl, hk2, ?_, ?_⟩, by simp [intOf]; omega⟩
              · rw [← HH.out.1]
              · exact ((HH.out.2.1.trans HFe.out).trans HF1.out)
    · obtain rfl : k = l.length := by omega
      have g1 : ¬ (l.length : Int) < (l.length : Int) := by omega
      have g2 : ¬ 9223372036854775807 < S.size + 1 := by omega
      have hfin : S ++ ⟨#[125]⟩ = ⟨(matchText l).toArray⟩ := by
        rw [List.take_of_length_le (Nat.le_refl _)] at hSS
        apply bs_ext
        rw [← hSS, ← openP_text]
        simp
      have HFI := Lib.hid (And.intro hfin hF)
      clear hfin hF hSS hol
      go_wp2_with fail
      go_ret
      refine ⟨?_, HFI.out.2⟩
      rw [← HFI.out.1]
      rfl
end Go.Proofs.YtaniaknphjnlkaaGreatDoor
