/- traceq.braces: matchers in braces. -/
import Derived.Test.YtdhmloejgoacaaaGreatDoorMw30
set_option linter.unusedVariables false
set_option linter.unusedSimpArgs false
namespace Go.Proofs.YtdhmloejgoacaaaGreatDoor
open Go.RowKit Go.Bl Go.Lq Go.Tq

def BrPost (R : ByteArray) (m : Bs) (w : World) (e : Ending) (w' : World) : Prop :=
  Fr [] w w' ∧ match matchL m with
    | .ok ms r => ∃ v, e = .returned (.tuple #[v, .int .i64 ((R.size - r.length : Nat) : Int), .bool true]) ∧ Mts w' v ms
    | .bad _ => ∃ v r, e = .returned (.tuple #[v, .int .i64 ((R.size - r.length : Nat) : Int), .bool false]) ∧ r <:+ m
def strLen (v : Value) : Nat := match v with | .string s => s.size | _ => 0
def BrRel (ms : List Mt) (B : Nat) (w : World) (vo vr : Value) (wr : World) : Prop :=
  ∃ (X : ByteArray) (x : Bs) (done todo : List Mt), vr = .string X ∧ X.data.toList = x ∧ ms = done ++ todo ∧ (todo = [] ∧ x = [] ∨ InnerR x todo) ∧ x.length + done.length ≤ 1024 ∧ wr.ownsRow B 74 3 vo done.length (mtCells done) ∧ Fr [] w wr
theorem pm_form {T : ByteArray} {r : Bs} (h : pmP T.data.toList = .form r) (hs : T.size ≤ 65536) {w W : World} (hG : GV w) (h8 : 8 ≤ w.heap.size) (hF : Fr [] w W) :
    Calls Tryz.prog 217 #[.string T] W fun e w' => e = .returned (.tuple #[.slice none 0 0, .int .i64 3, .int .i64 ((T.size - r.length : Nat) : Int)]) ∧ Fr [] W w' := by
  refine (parseMatchA T hs W (hG.frn hF h8) (Nat.le_trans h8 hF.size)).mono ?_
  rintro e w' ⟨hF2, hx⟩
  rw [h] at hx
  exact ⟨hx, hF2⟩
theorem pm_wrong {T : ByteArray} {n : Int} (h : pmP T.data.toList = .wrong n) (hs : T.size ≤ 65536) {w W : World} (hG : GV w) (h8 : 8 ≤ w.heap.size) (hF : Fr [] w W) :
    Calls Tryz.prog 217 #[.string T] W fun e w' => e = .returned (.tuple #[.slice none 0 0, .int .i64 n, .int .i64 0]) ∧ Fr [] W w' := by
  refine (parseMatchA T hs W (hG.frn hF h8) (Nat.le_trans h8 hF.size)).mono ?_
  rintro e w' ⟨hF2, hx⟩
  rw [h] at hx
  exact ⟨hx, hF2⟩
theorem pm_ok {T : ByteArray} {ms : List Mt} (h : pmP T.data.toList = .ok ms) (hs : T.size ≤ 65536) {w W : World} (hG : GV w) (h8 : 8 ≤ w.heap.size) (hF : Fr [] w W) :
    Calls Tryz.prog 217 #[.string T] W fun e w' => ∃ v, e = .returned (.tuple #[v, .int .i64 0, .int .i64 0]) ∧ Mts w' v ms ∧ Fr [] W w' := by
  refine (parseMatchA T hs W (hG.frn hF h8) (Nat.le_trans h8 hF.size)).mono ?_
  rintro e w' ⟨hF2, hx⟩
  rw [h] at hx
  obtain ⟨v, h1, h2⟩ := hx
  exact ⟨v, h1, h2, hF2⟩
/-- The one matcher that the round has read. -/
def OneAt (m : Mt) (W : World) (v : Value) (wx : World) : Prop := ∃ ad c, v = .slice (some ad) 1 c ∧ MtAt wx ad m ∧ Fr [] W wx
theorem OneAt.ofMts {m : Mt} {W w' : World} {v : Value} (h : Mts w' v [m]) (hF : Fr [] W w') : OneAt m W v w' := by
  obtain ⟨A, cap, e, _, hx⟩ := h
  obtain ⟨ad, ha, hm⟩ := hx 0 (by simp)
  refine ⟨ad, cap, by rw [e, ha]; rfl, ?_, hF⟩
  have h0 : ad.add (0 * 3) = ad := by unfold Addr.add; split <;> simp_all
  rw [h0] at hm
  exact hm
theorem news_at {w : World} {ad : Addr} {m : Mt} (h : MtAt w ad m) : ∀ j u, ([.int .i64 m.op, .string ⟨m.key.toArray⟩, .string ⟨m.val.toArray⟩] : List Value)[j]? = some u → w.cell? (ad.add j) = some u := by
  intro j u hj
  obtain ⟨h0, h1, h2⟩ := h
  match j, hj with
  | 0, hj =>
    have : ad.add 0 = ad := by unfold Addr.add; split <;> simp_all
    rw [this, h0]
    exact hj
  | 1, hj =>
    have : ad.add 1 = ⟨ad.block, ad.off + 1, none⟩ := by unfold Addr.add; split <;> simp_all
    rw [this, h1]
    exact hj
  | 2, hj =>
    have : ad.add 2 = ⟨ad.block, ad.off + 2, none⟩ := by unfold Addr.add; split <;> simp_all
    rw [this, h2]
    exact hj
theorem pm_one {Y : ByteArray} {m : Mt} (h : pmP Y.data.toList = if rightM Lib.validD [m] ≠ 0 then .wrong (rightM Lib.validD [m]) else .ok [m]) (hs : Y.size ≤ 65536) {w W : World} (hG : GV w) (h8 : 8 ≤ w.heap.size) (hF : Fr [] w W) :
    Calls Tryz.prog 217 #[.string Y] W fun e w' => ∃ v c, e = .returned (.tuple #[v, .int .i64 c, .int .i64 0]) ∧ Fr [] W w' ∧ ((c = 0 ∧ Mts w' v [m]) ∨ c ≠ 0) := by
  by_cases h0 : rightM Lib.validD [m] = 0
  · rw [if_neg (by simp [h0])] at h
    refine (pm_ok h hs hG h8 hF).mono ?_
    rintro e w' ⟨v, rfl, hM, hF⟩
    exact ⟨v, 0, rfl, hF, .inl ⟨rfl, hM⟩⟩
  · rw [if_pos h0] at h
    refine (pm_wrong h hs hG h8 hF).mono ?_
    rintro e w' ⟨rfl, hF⟩
    exact ⟨_, _, rfl, hF, .inr h0⟩
set_option maxRecDepth 100000 in
set_option maxHeartbeats 4000000 in
theorem braces_any (R : ByteArray) (l : Bs) (hl : R.data.toList = 123 :: l) (hs : R.size ≤ 1024) (w : World) (hG : GV w) (h8 : 8 ≤ w.heap.size) :
    Calls Tryz.prog 240 #[.string R] w (BrPost R (123 :: l) w) := by
  have hcut := cut_any R 125 (.inr rfl) (by omega) w
  rw [hl] at hcut
  have hRn : R.size = (123 :: l).length := by rw [← hl, bytes_len]
  obtain ⟨n, hn⟩ : ∃ n : Int, cutV R (cutGo 125 false (123 :: l)) = .int .i64 n := by
    cases cutGo 125 false (123 :: l) with
    | none => exact ⟨_, rfl⟩
    | some r => exact ⟨_, rfl⟩
  rw [hn] at hcut
  have HN := Lib.hid hn
  have HRN := Lib.hid hRn
  have HL := Lib.hid hl
  clear hn hRn hl
  obtain ⟨pm, hpm⟩ : ∃ pm, matchL (123 :: l) = pm := ⟨_, rfl⟩
  cases pm with
  | bad r0 =>
    have hcase : (¬ n > 0 ∧ True) ∨ (n > 0 ∧ ∃ q : Nat, n = (q : Int) ∧ q ≤ R.size) := by
      cases hc : cutGo 125 false (123 :: l) with
      | none =>
        have := HN.out
        rw [hc] at this
        injection this with _ h
        exact .inl ⟨by omega, trivial⟩
      | some r =>
        have := HN.out
        rw [hc] at this
        injection this with _ h
        by_cases hp : n > 0
        · exact .inr ⟨hp, R.size - r.length, h.symm, by omega⟩
        · exact .inl ⟨hp, trivial⟩
    have HP := Lib.hid hpm
    clear hpm
    go_enter Tryz.func240, Tryz.ntmps240
    go_wp2_with fail
    refine hcut.mono ?_
    rintro e w1 ⟨rfl, rfl⟩
    clear hcut
    rcases hcase with ⟨hc, _⟩ | ⟨hc, q, rfl, hq⟩
    · obtain ⟨r, h1, h2⟩ := pm_bad (t := 123 :: l) (z := []) HP.out (by simp) (by have := HRN.out; omega)
      have hp := pm_form (T := R) (r := r) (by rw [HL.out]; exact h1) (by omega) hG h8 (Fr.refl [] _)
      have H2 := Lib.hid (And.intro h1 h2)
      clear h1 h2
      go_wp2_with fail
      refine hp.mono ?_
      rintro e w2 ⟨rfl, hF⟩
      go_wp2_with fail
      go_ret3
      refine ⟨hF, ?_⟩
      rw [HP.out]
      exact ⟨_, r, rfl, H2.out.2⟩
    · obtain ⟨T, hT⟩ : ∃ T : ByteArray, R.extract 0 q = T := ⟨_, rfl⟩
      have hTl : T.data.toList = (123 :: l).take q := by rw [← hT, extract_list, HL.out, List.drop_zero, Nat.sub_zero]
      obtain ⟨r, h1, h2⟩ := pm_bad (t := (123 :: l).take q) (z := (123 :: l).drop q) HP.out (by simp) (by have := HRN.out; rw [List.length_take]; omega)
      have hTs : T.size = q := by
        rw [← bytes_len, hTl, List.length_take, ← HRN.out]
        omega
      have hp := pm_form (T := T) (r := r) (by rw [hTl]; exact h1) (by omega) hG h8 (Fr.refl [] _)
      have hle := h2.length_le
      rw [List.length_take, ← HRN.out] at hle
      have hat : (((T.size - r.length : Nat)) : Int) = ((R.size - (r ++ (123 :: l).drop q).length : Nat) : Int) := by
        rw [List.length_append, List.length_drop, ← HRN.out]
        omega
      obtain ⟨av, hav⟩ : ∃ av : Int, (((T.size - r.length : Nat)) : Int) = av := ⟨_, rfl⟩
      rw [hav] at hp hat
      have HAT := Lib.hid hat
      have hsuf : (r ++ (123 :: l).drop q) <:+ 123 :: l := by
        obtain ⟨a, ha⟩ := h2
        exact ⟨a, by rw [← List.append_assoc, ha, List.take_append_drop]⟩
      have H2 := Lib.hid hsuf
      clear h1 h2 hsuf hat hle hTs hTl hav
      go_wp2_with fail
      (try rw [hT])
      refine hp.mono ?_
      rintro e w2 ⟨rfl, hF⟩
      go_wp2_with fail
      go_ret3
      refine ⟨hF, ?_⟩
      rw [HP.out]
      exact ⟨.slice none 0 0, _, by rw [← HAT.out]; rfl, H2.out⟩
  | ok ms r =>
    obtain ⟨a, ha, hne, hcg, hpa⟩ := pm_good hpm (by have := HRN.out; omega)
    have hn1 : n = ((R.size - r.length : Nat) : Int) := by
      have := HN.out
      rw [hcg] at this
      injection this with _ h
      exact h.symm
    have hal : 1 ≤ a.length := by cases a with | nil => exact absurd rfl hne | cons _ _ => simp
    have hrl : R.size = a.length + r.length := by rw [HRN.out, ha]; simp
    obtain ⟨q, hq⟩ : ∃ q, a.length = q := ⟨_, rfl⟩
    obtain rfl : n = (q : Int) := by omega
    have hq1 : q ≤ R.size := by omega
    have hq0 : (q : Int) > 0 := by omega
    have hqr : ((R.size - r.length : Nat) : Int) = (q : Int) := by omega
    obtain ⟨T, hT⟩ : ∃ T : ByteArray, R.extract 0 q = T := ⟨_, rfl⟩
    have hTl : T.data.toList = a := by rw [← hT, extract_list, HL.out, List.drop_zero, Nat.sub_zero, ha, ← hq, List.take_left]
    have hTs : T.size = q := by rw [← bytes_len, hTl, hq]
    have HA := Lib.hid (And.intro ha (And.intro hTl hTs))
    have HP := Lib.hid hpm
    have HQ := Lib.hid (And.intro hq hqr)
    have hT1 : T.size ≤ 1024 := by omega
    clear hpm ha hcg hrl hn1 hq hqr hTs
    by_cases hr0 : rightM Lib.validD ms = 0
    · rw [if_neg (by simp [hr0])] at hpa
      have hp := pm_ok (T := T) (ms := ms) (by rw [hTl]; exact hpa) (by omega) hG h8 (Fr.refl [] _)
      clear hTl hpa
      go_enter Tryz.func240, Tryz.ntmps240
      go_wp2_with fail
      refine hcut.mono ?_
      rintro e w1 ⟨rfl, rfl⟩
      clear hcut
      go_wp2_with fail
      (try rw [hT])
      refine hp.mono ?_
      rintro e w2 ⟨v, rfl, hM, hF⟩
      have HM := Lib.hid hM
      clear hM hp
      go_wp2_with fail
      go_ret3
      refine ⟨hF, ?_⟩
      rw [HP.out]
      exact ⟨v, by rw [HQ.out.2]; rfl, HM.out⟩
    · rw [if_pos hr0] at hpa
      obtain ⟨c, hc⟩ : ∃ c, rightM Lib.validD ms = c := ⟨_, rfl⟩
      have hc3 : c ≠ 3 := by rw [← hc]; exact rightM_ne _ _
      rw [hc] at hpa hr0
      have hms : ms ≠ [] := by
        rintro rfl
        exact hr0 (by rw [← hc]; rfl)
      obtain ⟨x, hx1, hx2⟩ := pm_inner HP.out HA.out.1 hms
      have hp := pm_wrong (T := T) (n := c) (by rw [hTl]; exact hpa) (by omega) hG h8 (Fr.refl [] _)
      have hxq : q = x.length + 2 := by rw [← HQ.out.1, hx1]; simp
      obtain ⟨y, hy⟩ : ∃ y, x.length + 1 = y := ⟨_, rfl⟩
      have hTx : T.extract 1 y = ⟨x.toArray⟩ := by
        apply bs_of
        rw [extract_list, HA.out.2.1, hx1, ← hy]
        simp
      have hc0 : (c == 0) = false := by simpa using hr0
      have hc4 : (c == 3) = false := by simpa using hc3
      have hq2 : (q : Int) - 1 = (y : Int) := by omega
      have hx3 : y ≤ T.size := by rw [HA.out.2.2]; omega
      have hxl : x.length ≤ 1022 := by omega
      have hy1 : 1 ≤ y := by omega
      have HY := Lib.hid hy
      have HX := Lib.hid (And.intro hx1 hx2)
      have HXQ := Lib.hid hxq
      clear hTl hpa hx1 hx2 hxq hc hr0 hc3 hms hy
      go_enter Tryz.func240, Tryz.ntmps240
      go_wp2_with fail
      refine hcut.mono ?_
      rintro e w1 ⟨rfl, rfl⟩
      clear hcut
      go_wp2_with fail
      (try rw [hT])
      refine hp.mono ?_
      rintro e w2 ⟨rfl, hF⟩
      have hsl : ∀ W, (Instr.slice 9 (.string T) (some (.int .i64 1)) (some (.int .i64 (y : Int))) none).run Tryz.prog W = .ok (.string ⟨x.toArray⟩) W := fun W => by
        have := run_slice_string (P := Tryz.prog) W 9 T .i64 .i64 1 (y : Int) Tryz.underlying9 (by omega) (by omega) (by omega)
        rw [show (1 : Int).toNat = 1 from rfl, Int.toNat_natCast, hTx] at this
        exact this
      go_wp2_with fail
      obtain ⟨B, hB⟩ : ∃ B, w1.heap.size = B := ⟨_, rfl⟩
      have H0 : BrRel ms B w1 (.slice none 0 0) (.string ⟨x.toArray⟩) w2 := ⟨⟨x.toArray⟩, x, [], ms, rfl, rfl, rfl, .inr HX.out.2, by simp; omega, World.ownsRow_nil _ _ _ _, hF⟩
      clear hsl hTx hq2 hx3 hxl hy1 hp hF hT hc0 hc4 hT1 hq0 hal hne
      go_loopw [10, 11] (fun vo vr wr => BrRel ms B w1 vo vr wr) (fun _ vr _ => strLen vr)
      case atStart => exact H0
      case round =>
        clear H0
        obtain ⟨X, x, done, todo, rfl, hXl, hms, hcase, hlen, hrow, hF⟩ := hrel
        obtain ⟨w3, rfl⟩ : ∃ w3, w3 = wr := ⟨_, rfl⟩
        have hXs : X.size = x.length := by rw [← bytes_len, hXl]
        rcases hcase with ⟨rfl, rfl⟩ | hI
        · have hX0 : X.toList.isEmpty = true := by rw [ByteArray.toList_eq, hXl]; rfl
          have HM := Lib.hid (And.intro hms (And.intro hXs hXl))
          clear hms hXs hXl
          go_wp2_with fail
          go_ret3
          refine ⟨hF, ?_⟩
          rw [HP.out]
          refine ⟨u10, by rw [HQ.out.2]; rfl, ?_⟩
          rw [HM.out.1, List.append_nil]
          exact Mts.ofRow hrow (by omega)
        · obtain ⟨m, ms', k, n, z, rfl, hfr, hnx⟩ := inner_front hI
          obtain ⟨hn1, hn2, hn3, hn4⟩ := hfr.len
          have hX0 : X.toList.isEmpty = false := by
            rw [ByteArray.toList_eq, hXl]
            cases x with
            | nil => exact (inner_ne hI).elim
            | cons _ _ => rfl
          have hib : ∀ W, Calls Tryz.prog 97 #[.string X, .int .u8 34] W fun e w' => e = .returned (.int .i64 (k : Int)) ∧ w' = W := fun W => by
            have := Tryz.strings_IndexByte X 34 W
            rw [show (34 : Int).toNat.toUInt8 = 34 from rfl, hXl, hfr.quo] at this
            exact this
          obtain ⟨U, hU⟩ : ∃ U : ByteArray, X.extract k X.size = U := ⟨_, rfl⟩
          have hUl : U.data.toList = x.drop k := by
            rw [← hU, extract_list, hXl]
            exact List.take_of_length_le (by simp; omega)
          have hUs : U.size = x.length - k := by rw [← bytes_len, hUl, List.length_drop]
          obtain ⟨d, hd⟩ : ∃ d, n - k = d := ⟨_, rfl⟩
          have hcu : ∀ W, Calls Tryz.prog 218 #[.string U, .int .u8 34] W fun e w' => e = .returned (.int .i64 (d : Int)) ∧ w' = W := fun W => by
            have := cut_any U 34 (.inl rfl) (by omega) W
            rw [hUl, hfr.cut, show cutV U (some z) = .int .i64 (d : Int) by
              show Value.int .i64 ((U.size - z.length : Nat) : Int) = _
              rw [show U.size - z.length = d by omega]] at this
            exact this
          obtain ⟨P, hP⟩ : ∃ P : ByteArray, X.extract 0 n = P := ⟨_, rfl⟩
          have hPl : P.data.toList = x.take n := by rw [← hP, extract_list, hXl, List.drop_zero, Nat.sub_zero]
          have hPs : P.size = n := by rw [← bytes_len, hPl, List.length_take]; omega
          obtain ⟨Y, hY⟩ : ∃ Y : ByteArray, (⟨#[123]⟩ : ByteArray) ++ P ++ ⟨#[125]⟩ = Y := ⟨_, rfl⟩
          have hYl : Y.data.toList = 123 :: (x.take n ++ [125]) := by rw [← hY]; simp [hPl]
          have hYs : Y.size = n + 2 := by rw [← bytes_len, hYl]; simp; omega
          have hpp := pm_piece hfr.piece (by rw [List.length_take]; omega)
          rw [← hYl] at hpp
          obtain ⟨Z, hZ⟩ : ∃ Z : ByteArray, X.extract n X.size = Z := ⟨_, rfl⟩
          have hZl : Z.data.toList = z := by
            rw [← hZ, extract_list, hXl]
            have h1 : x.drop n = z := by
              conv => lhs; rw [hfr.eq]
              rw [List.drop_append_of_le_length (by rw [List.length_take]; omega)]
              simp
            rw [h1]
            exact List.take_of_length_le (by omega)
          have g1 : k ≤ X.size := by omega
          have g2 : (k : Int) + (d : Int) = (n : Int) := by omega
          have g3 : n ≤ X.size := by omega
          have g4 : ¬ 9223372036854775807 < 1 + P.size := by omega
          have g5 : ¬ 9223372036854775807 < 1 + P.size + 1 := by omega
          have hFr := Lib.hid hfr
          have HNX := Lib.hid hnx
          have HI := Lib.hid hI
          have HL2 := Lib.hid (And.intro hlen (And.intro hXs (And.intro hXl (And.intro hUl (And.intro hUs (And.intro hPl (And.intro hYl (And.intro hZl hms))))))))
          have hG1 : GV w3 := hG.frn hF h8
          have h81 : 8 ≤ w3.heap.size := Nat.le_trans h8 hF.size
          have hpm := fun W (hW : Fr [] w3 W) => pm_one hpp (by omega) hG1 h81 hW
          have hraw := fun W => raw_any P m (by omega) (by rw [hPl]; exact hfr.piece) W
          have hlx : x.length ≤ 1024 := by omega
          clear hfr hnx hI hlen hXs hXl hUl hUs hPl hYl hZl hms hPs hYs hpp
          go_wp2_with fail
          refine (hib _).mono ?_
          rintro e wy ⟨rfl, hwy⟩
          obtain rfl : wy = w3 := hwy
          clear hib
          go_wp2_with fail
          refine (hcu _).mono ?_
          rintro e wz ⟨rfl, hwz⟩
          obtain rfl : wz = wy := hwz
          clear hcu
          go_wp2_with fail
          (try rw [hY])
          refine (hpm _ (Fr.refl _ _)).mono ?_
          rintro e w4 ⟨v, c1, rfl, hF4, hc1⟩
          clear hpm
          obtain ⟨cb, hcb⟩ : ∃ cb, (c1 != 0) = cb := ⟨_, rfl⟩
          have hrow4 := row_fr hrow hF4 (by simp)
          have hF14 := hF.trans hF4
          go_upto_if 64 with fail
          go_cut [14] (fun v14 wx => OneAt m w4 v14 wx)
          case first =>
            cases cb
            · rcases hc1 with ⟨h1, hM⟩ | h1
              · have h2 := OneAt.ofMts hM (Fr.refl [] w4)
                have H2 := Lib.hid h2
                clear h2 hM h1
                go_wp2_with fail
                go_meet
                exact H2.out
              · simp at hcb
                exact absurd hcb h1
            · clear hc1
              go_wp2_with fail
              refine (hraw _).mono ?_
              rintro e w5 ⟨rfl, hF5⟩
              have hc := Go.Bl.heap_alloc w5 (.cells #[.int .i64 m.op, .string ⟨m.key.toArray⟩, .string ⟨m.val.toArray⟩] 74)
              have h2 : OneAt m w4 (.slice (some ⟨w5.heap.size, 0, none⟩) 1 1) (w5.alloc (.cells #[.int .i64 m.op, .string ⟨m.key.toArray⟩, .string ⟨m.val.toArray⟩] 74)) :=
                ⟨_, 1, rfl, ⟨cell_of hc 0, cell_of hc 1, cell_of hc 2⟩, hF5.alloc _⟩
              have H2 := Lib.hid h2
              clear h2 hc
              go_wp2_with fail
              go_meet
              exact H2.out
          case rest =>
            obtain ⟨w5, rfl⟩ : ∃ w5, w5 = wc := ⟨_, rfl⟩
            obtain ⟨ad, c2, rfl, hMt, hF5⟩ := hcut
            have hrow5 := row_fr hrow4 hF5 (by simp)
            have hF15 := hF14.trans hF5
            have hBw : B ≤ w5.heap.size := by rw [← hB]; exact hF15.size
            have hdl : done.length ≤ 1024 := by have := HL2.out.1; omega
            obtain ⟨i0, hi0, hz0, hz1, hz2⟩ := info_parts infoMt
            clear hrow hrow4 hF14 hF5 hF4 hc1 hcb hraw hG1 h81 hF
            go_wp2_with (at_builtin; refine wpList_append_lies _ rfl (.tmp 70) (.tmp 71) 22 rfl B 74 i0 _ 3 _ Tryz.underlying22 hi0 hz0 hz1 hz2 rfl (by omega) u10 done.length (mtCells done) (by simp [Act.eval]) hrow5 ad 1 c2 [.int .i64 m.op, .string ⟨m.key.toArray⟩, .string ⟨m.val.toArray⟩] (by simp [Act.eval]) rfl (news_at hMt) (by simp [Value.oneCell']) (by omega) (by unfold maxLen; omega) (by omega) hBw w5.heap.size rfl ?_; intro gg cap' w6 hown6 hgrow hat hlt)
            have hown : ∀ k, u10.ownBlock = some k → B ≤ k := fun k hk => (row_old hrow5 hk).1
            have hFg := fr_grown hgrow
            have hF16 : Fr [] w1 w6 := (hF15.mono (T := u10.ownBlock.toList) (fun i hi => by simp at hi)).trans hFg |>.mono (fun i hi => .inr (by rw [hB]; exact hown _ (Option.mem_toList.1 hi)))
            have hrow6 : w6.ownsRow B 74 3 (.slice (some ⟨gg, 0, none⟩) (done.length + 1) cap') (done ++ [m]).length (mtCells (done ++ [m])) := by
              rw [mtCells_append, List.length_append]
              exact hown6
            clear hown6 hgrow hat hFg hown hrow5 hF15 hMt
            have htl := trimLeftBl Z w6
            rw [HL2.out.2.2.2.2.2.2.2.1] at htl
            refine htl.mono ?_
            rintro e w7 ⟨rfl, hF7⟩
            clear htl
            obtain ⟨Z1, hZ1⟩ : ∃ Z1 : ByteArray, (⟨(skipL z).toArray⟩ : ByteArray) = Z1 := ⟨_, rfl⟩
            have htp : ∀ W, Calls Tryz.prog 79 #[.string Z1, .string ⟨#[44]⟩] W fun e w' => e = .returned (.string ⟨(Lib.trimPrefix (skipL z) [44]).toArray⟩) ∧ w' = W := fun W => by
              have := Tryz.strings_TrimPrefix Z1 ⟨#[44]⟩ W
              rw [← hZ1] at this
              rw [← hZ1]
              exact this
            rw [hZ1]
            clear hZ1
            obtain ⟨Z2, hZ2⟩ : ∃ Z2 : ByteArray, (⟨(Lib.trimPrefix (skipL z) [44]).toArray⟩ : ByteArray) = Z2 := ⟨_, rfl⟩
            rw [hZ2] at htp
            have htl2 : ∀ W, Calls Tryz.prog 99 #[.string Z2, .string ⟨#[32, 9]⟩] W fun e w' => e = .returned (.string ⟨(nextL z).toArray⟩) ∧ Fr [] W w' := fun W => by
              have := trimLeftBl Z2 W
              rw [← hZ2] at this
              rw [← hZ2]
              exact this
            clear hZ2
            go_wp2_with fail
            refine (htp _).mono ?_
            rintro e w8 ⟨rfl, hw8⟩
            obtain rfl : w8 = w7 := hw8
            go_wp2_with fail
            refine (htl2 _).mono ?_
            rintro e w9 ⟨rfl, hF9⟩
            have hrow9 := row_fr (row_fr hrow6 hF7 (by simp)) hF9 (by simp)
            have hF19 := (hF16.trans hF7).trans hF9
            have hnl := next_le z
            obtain ⟨hf1, hf2, hf3, hf4⟩ := hFr.out.len
            have HE := Lib.hid (And.intro hrow9 (And.intro hF19 (And.intro hnl (And.intro hf3 hf4))))
            clear hrow9 hF19 hnl hf1 hf2 hf3 hf4 hrow6 hF16 hF7 hF9 htp htl2
            go_wp2_with fail
            obtain ⟨hrow9, hF19, hnl, hf3, hf4⟩ := HE.out
            have hl0 := HL2.out
            refine ⟨⟨⟨(nextL z).toArray⟩, nextL z, done ++ [m], ms', rfl, rfl, by rw [hl0.2.2.2.2.2.2.2.2]; simp, HNX.out, by simp; omega, by simpa using hrow9, hF19⟩, ?_⟩
            show (ByteArray.mk (nextL z).toArray).size < X.size
            rw [hl0.2.1, ← bytes_len]
            simp
            omega
end Go.Proofs.YtdhmloejgoacaaaGreatDoor
