/- attr.wrong, attr.RightMatch. -/
import Derived.Test.YtdhmloejgoacaaaGreatDoorMw20
import Derived.Test.YtdhmloejgoacaaaGreatDoorTqList
import Derived.OwnWalk
import Derived.Test.YtdhmloejgoacaaaGreatDoorMw23
import Derived.Test.YtdhmloejgoacaaaGreatDoorMw12
set_option linter.unusedVariables false
set_option linter.unusedSimpArgs false
namespace Go.Proofs.YtdhmloejgoacaaaGreatDoor
open Go.RowKit Go.Bl Go.Lq

theorem signP_nil (n : Int) : (ByteArray.mk (signP n).toArray).toList.isEmpty = decide (n < 1 ∨ 4 < n) := by
  rw [empty_iff]
  apply decide_eq_decide.2
  show signP n = [] ↔ _
  unfold signP
  constructor
  · intro h
    repeat' split at h
    all_goals first | (cases h; done) | omega
  · intro h
    rw [if_neg (by omega), if_neg (by omega), if_neg (by omega), if_neg (by omega)]
theorem wrongM_cons (V : Bs → Bool) (m : Mt) (l : List Mt) : wrongM V (m :: l) = if m.op < 1 ∨ 4 < m.op then 42 else if !keyP m.key then 40 else if !plainP V m.val then 41 else wrongM V l := rfl
def WrRel (w : World) (l : List Mt) (iv : Value) (wr : World) : Prop :=
  ∃ k, iv = .int .i64 ((k : Nat) : Int) ∧ k ≤ l.length ∧ Fr [] w wr ∧ wrongM Lib.validD l = wrongM Lib.validD (l.drop k)

set_option maxRecDepth 100000 in
set_option maxHeartbeats 800000 in
theorem wrong_any (l : List Mt) (v : Value) (w : World) (hG : GV w) (h8 : 8 ≤ w.heap.size) (hl1 : l.length ≤ 1000) (hM : Mts w v l) :
    Calls Tryz.prog 84 #[v] w fun e w' => e = .returned (.int .i64 (wrongM Lib.validD l)) ∧ Fr [] w w' := by
  obtain ⟨A, cp, rfl, hl, hx⟩ := hM
  have HX := Lib.hid hx
  obtain ⟨ans, hans⟩ : ∃ ans, wrongM Lib.validD l = ans := ⟨_, rfl⟩
  rw [hans]
  have HANS := Lib.hid hans
  clear hx hans
  go_enter Tryz.func84, Tryz.ntmps84
  go_wp2_with fail
  go_loopw [7] (fun iv wr => WrRel w l iv wr) (fun iv _ => l.length - (intOf iv).toNat)
  case atStart => exact ⟨0, rfl, by omega, Fr.refl _ _, rfl⟩
  case round =>
    obtain ⟨k, rfl, hk, hF, hw⟩ := hrel
    by_cases hk2 : k < l.length
    · obtain ⟨ad, rfl, m0, m1, m2⟩ := HX.out k hk2
      have c0 := cell_frS hF m0 (by simp)
      have c1 := cell_frS hF m1 (by simp)
      have c2 := cell_frS hF m2 (by simp)
      have hsp := World.cell?_spot c0
      clear m0 m1 m2
      obtain ⟨m, hm⟩ : ∃ m, l[k] = m := ⟨_, rfl⟩
      rw [List.drop_eq_getElem_cons hk2] at hw
      rw [hm] at c0 c1 c2 hw
      rw [wrongM_cons, HANS.out] at hw
      obtain ⟨K, hK⟩ : ∃ K : ByteArray, ⟨m.key.toArray⟩ = K := ⟨_, rfl⟩
      obtain ⟨V, hV⟩ : ∃ V : ByteArray, ⟨m.val.toArray⟩ = V := ⟨_, rfl⟩
      obtain ⟨G, hGG⟩ : ∃ G : ByteArray, ⟨(signP m.op).toArray⟩ = G := ⟨_, rfl⟩
      rw [hK] at c1
      rw [hV] at c2
      have hkl : (k : Int) < (l.length : Int) := by omega
      have hk1 : k + 1 ≤ 100000 := by omega
      have hsg := sign_any m.op
      have hse := signP_nil m.op
      rw [hGG] at hsg hse
      have hKl : K.data.toList = m.key := by rw [← hK]
      have hVl : V.data.toList = m.val := by rw [← hV]
      have hF2 : Fr [] w (wr.alloc (.cells #[.int .i64 m.op, .string K, .string V] 74)) := hF.alloc _
      have hG2 := hG.below (B := 8) (hF2.below h8 (by simp)) (by omega)
      have hB := heap_alloc wr (.cells #[.int .i64 m.op, .string K, .string V] 74)
      have HW := Lib.hid (And.intro hw (And.intro hF2 hB))
      clear hw hF hF2 hB hm hK hV hGG
      by_cases ho : m.op < 1 ∨ 4 < m.op
      · rw [decide_eq_true ho] at hse
        have HO := Lib.hid ho
        clear ho
        go_wp2_with fail
        refine (hsg _).mono ?_
        rintro e w' ⟨rfl, rfl⟩
        go_wp2_with fail
        go_ret
        refine ⟨?_, HW.out.2.1⟩
        have := HW.out.1
        rw [if_pos HO.out] at this
        rw [this]
        rfl
      · rw [decide_eq_false ho] at hse
        have HO := Lib.hid ho
        clear ho
        have hka := key_anyA K
        rw [hKl] at hka
        obtain ⟨bk, hbk⟩ : ∃ bk, keyP m.key = bk := ⟨_, rfl⟩
        rw [hbk] at hka
        have HBK := Lib.hid hbk
        clear hbk
        go_wp2_with fail
        refine (hsg _).mono ?_
        rintro e w' ⟨rfl, rfl⟩
        go_wp2_with fail
        refine (hka _).mono ?_
        rintro e w' ⟨rfl, rfl⟩
        cases bk with
        | false =>
          go_wp2_with fail
          go_ret
          refine ⟨?_, HW.out.2.1⟩
          have := HW.out.1
          rw [if_neg HO.out, HBK.out] at this
          rw [this]
          rfl
        | true =>
          have hpl := plain_any V _ hG2
          rw [hVl] at hpl
          obtain ⟨bp, hbp⟩ : ∃ bp, plainP Lib.validD m.val = bp := ⟨_, rfl⟩
          rw [hbp] at hpl
          have HBP := Lib.hid hbp
          clear hbp
          go_wp2_with fail
          refine hpl.mono ?_
          rintro e w2 ⟨rfl, hF3⟩
          have hF4 := HW.out.2.1.trans hF3
          cases bp with
          | false =>
            go_wp2_with fail
            go_ret
            refine ⟨?_, hF4⟩
            have := HW.out.1
            rw [if_neg HO.out, HBK.out, HBP.out] at this
            rw [this]
            rfl
          | true =>
            have hwk : True → wrap64 ((k : Int) + 1) = (k : Int) + 1 := fun _ => wrap_sum (x := k) (c := 1) hk1
            go_wp2_with fail
            refine ⟨⟨k + 1, rfl, hk2, hF4, ?_⟩, by simp [intOf]; omega⟩
            have := HW.out.1
            rw [if_neg HO.out, HBK.out, HBP.out] at this
            rw [HANS.out, this]
            rfl
    · obtain rfl : k = l.length := by omega
      have g1 : ¬ (l.length : Int) < (l.length : Int) := by omega
      rw [List.drop_of_length_le (Nat.le_refl _), HANS.out] at hw
      have HW := Lib.hid (And.intro hw hF)
      clear hw hF
      go_wp2_with fail
      go_ret
      refine ⟨?_, HW.out.2⟩
      rw [HW.out.1]
      rfl
set_option maxRecDepth 100000 in
theorem rightMatch_any (l : List Mt) (v : Value) (w : World) (hG : GV w) (h8 : 8 ≤ w.heap.size) (hM : Mts w v l) :
    Calls Tryz.prog 50 #[v] w fun e w' => e = .returned (.int .i64 (rightM Lib.validD l)) ∧ Fr [] w w' := by
  obtain ⟨A, cp, rfl, hl, hx⟩ := id hM
  by_cases h : 8 < l.length
  · have hr : rightM Lib.validD l = 7 := by unfold rightM; rw [if_pos h]
    rw [hr]
    have h1 : (l.length : Int) > 8 := by omega
    clear hr hx hM
    go_enter Tryz.func50, Tryz.ntmps50
    go_wp2
    go_ret
    exact ⟨rfl, Fr.refl _ _⟩
  · have hr : rightM Lib.validD l = wrongM Lib.validD l := by unfold rightM; rw [if_neg h]
    rw [hr]
    have hw := wrong_any l _ w hG h8 (by omega) hM
    have h1 : ¬ (l.length : Int) > 8 := by omega
    obtain ⟨ans, hans⟩ : ∃ ans, wrongM Lib.validD l = ans := ⟨_, rfl⟩
    rw [hans] at hw ⊢
    clear hr hx hM hans
    go_enter Tryz.func50, Tryz.ntmps50
    go_wp2_with fail
    refine hw.mono ?_
    rintro e w' ⟨rfl, hF⟩
    go_wp2
    go_ret
    exact ⟨rfl, hF⟩
end Go.Proofs.YtdhmloejgoacaaaGreatDoor
namespace Go.Proofs.YtdhmloejgoacaaaGreatDoor
open Go.RowKit Go.Bl Go.Lq

theorem fresh_Ar (T : Nat) (s : ByteArray) (hs : s.size ≤ 65536) (w : World) : Ar T (w.alloc (.cells #[.string s, .int .i64 0, .bool false] T)) w.heap.size s s.data.toList false := by
  refine ⟨?_, List.suffix_refl _, hs⟩
  rw [Go.Bl.heap_alloc, bytes_len, Nat.sub_self]
  rfl
theorem fr_newA {b : Nat} {w w' w2 : World} {o : Obj} (hb : w.heap.size = b) (hw : w.alloc o = w') (h : Fr [b] w' w2) : Fr [] w w2 := by
  subst hw hb
  exact ((Fr.refl [] w).alloc o).new h (by simp)
/-- A text in quotes, back. -/
def unqP (l : Bs) : Option Bs := match quotedM l with
  | .ok v r => if r = [] then some v else none
  | .bad _ => none
def UPost (s : ByteArray) (w : World) (e : Ending) (w' : World) : Prop :=
  Fr [] w w' ∧ match unqP s.data.toList with
    | some v => e = .returned (.tuple #[.string ⟨v.toArray⟩, .int .i64 0])
    | none => e = .returned (.tuple #[.string ⟨#[]⟩, .int .i64 3])
set_option maxRecDepth 100000 in
theorem unquoteA (s : ByteArray) (hs : s.size ≤ 65536) (w : World) : Calls Tryz.prog 219 #[.string s] w (UPost s w) := by
  go_enter Tryz.func219, Tryz.ntmps219
  go_wp2_with fail
  refine (quotedA w.heap.size s s.data.toList false _ (fresh_Ar _ s hs w)).mono ?_
  rintro e w2 ⟨v, r, bd, rfl, hg, hR, hF⟩
  have hF2 : Fr [] w w2 := fr_newA rfl rfl hF
  rw [if_neg (by simp)] at hg
  have k0 := cell_of hR.cells 0
  have k1 := cell_of hR.cells 1
  have k2 := cell_of hR.cells 2
  simp only [List.getElem?_toArray, List.getElem?_cons_zero, List.getElem?_cons_succ] at k0 k1 k2
  obtain ⟨pq, hpq⟩ : ∃ pq, quotedM s.data.toList = pq := ⟨_, rfl⟩
  rw [hpq] at hg
  cases pq with
  | bad x =>
    obtain ⟨rfl, rfl⟩ := hg
    have hu : unqP s.data.toList = none := by unfold unqP; rw [hpq]
    go_wp2_with fail
    go_ret2
    exact ⟨hF2, by rw [hu]; rfl⟩
  | ok a x =>
    obtain ⟨rfl, rfl, rfl⟩ := hg
    rcases r with _ | ⟨c, r⟩
    · have hu : unqP s.data.toList = some v := by unfold unqP; rw [hpq]; rfl
      have g0 : decide (((s.size - ([] : Bs).length : Nat) : Int) < (s.size : Int)) = false := by simp
      go_wp2_with fail
      go_ret2
      exact ⟨hF2, by rw [hu]; rfl⟩
    · have hu : unqP s.data.toList = none := by unfold unqP; rw [hpq]; rfl
      obtain ⟨p, hp1, hp2, hp3, hp4⟩ := hR.at
      rw [hp1] at k1
      have g0 : decide ((p : Int) < (s.size : Int)) = true := by simp; omega
      go_wp2_with fail
      go_ret2
      exact ⟨hF2, by rw [hu]; rfl⟩

/-- Matchers of a whole text. -/
inductive PM where
  | size
  | form (r : Bs)
  | wrong (n : Int)
  | ok (l : List Mt)
def pmP (l : Bs) : PM := if 65536 < l.length then .size else match matchL l with
  | .bad r => .form r
  | .ok ms r => if skipL r ≠ [] then .form (skipL r) else if rightM Lib.validD ms ≠ 0 then .wrong (rightM Lib.validD ms) else .ok ms
def RdPost (s : ByteArray) (w : World) (e : Ending) (w' : World) : Prop :=
  Fr [] w w' ∧ match matchL s.data.toList with
    | .bad r => e = .returned (.tuple #[.slice none 0 0, .int .i64 3, .int .i64 ((s.size - r.length : Nat) : Int)])
    | .ok ms r => if skipL r ≠ [] then e = .returned (.tuple #[.slice none 0 0, .int .i64 3, .int .i64 ((s.size - (skipL r).length : Nat) : Int)]) else
      ∃ v, e = .returned (.tuple #[v, .int .i64 0, .int .i64 0]) ∧ Mts w' v ms
set_option maxRecDepth 100000 in
theorem readA (s : ByteArray) (hs : s.size ≤ 65536) (w : World) : Calls Tryz.prog 220 #[.string s, .bool true] w (RdPost s w) := by
  have hg1 : ¬ (s.size : Int) > 65536 := by omega
  go_enter Tryz.func220, Tryz.ntmps220
  go_wp2_with fail
  refine (listA w.heap.size s s.data.toList _ (fresh_Ar _ s hs w)).mono ?_
  rintro e w2 ⟨v, ms, r, bd, rfl, hM, hg, hR, hF⟩
  have hF2 : Fr [] w w2 := fr_newA rfl rfl hF
  have k1 := cell_of hR.cells 1
  have k2 := cell_of hR.cells 2
  simp only [List.getElem?_toArray, List.getElem?_cons_zero, List.getElem?_cons_succ] at k1 k2
  obtain ⟨pq, hpq⟩ : ∃ pq, matchL s.data.toList = pq := ⟨_, rfl⟩
  rw [hpq] at hg
  have HP := Lib.hid hpq
  have HM := Lib.hid hM
  clear hpq hM
  cases pq with
  | bad x =>
    obtain ⟨rfl, rfl⟩ := hg
    go_wp2_with fail
    go_quiet (fail)
    go_wp2_with fail
    go_ret3
    refine ⟨hF2.drewN _, ?_⟩
    rw [HP.out]
    rfl
  | ok a x =>
    obtain ⟨rfl, rfl, hbd⟩ := hg
    by_cases hx : skipL x = []
    · have : bd = false := by rw [hbd]; simp [hx]
      subst this
      clear hbd
      go_wp2_with fail
      go_ret3
      refine ⟨hF2, ?_⟩
      rw [HP.out]
      simp only
      rw [if_neg (by simp [hx])]
      exact ⟨v, rfl, HM.out⟩
    · have : bd = true := by rw [hbd]; simp [hx]
      subst this
      clear hbd
      go_wp2_with fail
      go_quiet (fail)
      go_wp2_with fail
      go_ret3
      refine ⟨hF2.drewN _, ?_⟩
      rw [HP.out]
      simp only
      rw [if_pos hx]
      rfl
def PMPost (s : ByteArray) (w : World) (e : Ending) (w' : World) : Prop :=
  Fr [] w w' ∧ match pmP s.data.toList with
    | .size => e = .returned (.tuple #[.slice none 0 0, .int .i64 4, .int .i64 0])
    | .form r => e = .returned (.tuple #[.slice none 0 0, .int .i64 3, .int .i64 ((s.size - r.length : Nat) : Int)])
    | .wrong n => e = .returned (.tuple #[.slice none 0 0, .int .i64 n, .int .i64 0])
    | .ok ms => ∃ v, e = .returned (.tuple #[v, .int .i64 0, .int .i64 0]) ∧ Mts w' v ms
set_option maxRecDepth 100000 in
theorem parseMatchA (s : ByteArray) (hs : s.size ≤ 65536) (w : World) (hG : GV w) (h8 : 8 ≤ w.heap.size) : Calls Tryz.prog 217 #[.string s] w (PMPost s w) := by
  have hnl : ¬ 65536 < s.data.toList.length := by rw [bytes_len]; omega
  go_enter Tryz.func217, Tryz.ntmps217
  go_wp2_with fail
  refine (readA s hs w).mono ?_
  rintro e w1 ⟨hF1, h1⟩
  obtain ⟨pq, hpq⟩ : ∃ pq, matchL s.data.toList = pq := ⟨_, rfl⟩
  rw [hpq] at h1
  have HP := Lib.hid hpq
  clear hpq
  cases pq with
  | bad x =>
    have hpm : pmP s.data.toList = .form x := by unfold pmP; rw [if_neg hnl, HP.out]
    obtain rfl := h1
    go_wp2_with fail
    go_ret3
    refine ⟨hF1, ?_⟩
    rw [hpm]
    rfl
  | ok ms x =>
    simp only at h1
    by_cases hx : skipL x = []
    · rw [if_neg (by simp [hx])] at h1
      obtain ⟨v, rfl, hM⟩ := h1
      have hG1 := hG.below (hF1.below (B := w.heap.size) (Nat.le_refl _) (by simp)) h8
      have h81 : 8 ≤ w1.heap.size := Nat.le_trans h8 hF1.size
      have HM := Lib.hid hM
      clear hM
      go_wp2_with fail
      refine (rightMatch_any ms v w1 hG1 h81 HM.out).mono ?_
      rintro e w2 ⟨rfl, hF2⟩
      obtain ⟨n, hn⟩ : ∃ n, rightM Lib.validD ms = n := ⟨_, rfl⟩
      rw [hn]
      have HN := Lib.hid hn
      clear hn
      by_cases hn0 : n = 0
      · subst hn0
        have hpm : pmP s.data.toList = .ok ms := by unfold pmP; rw [if_neg hnl, HP.out]; simp [hx, HN.out]
        go_wp2_with fail
        go_ret3
        refine ⟨hF1.trans hF2, ?_⟩
        rw [hpm]
        exact ⟨v, rfl, HM.out.fr hF2⟩
      · have hpm : pmP s.data.toList = .wrong n := by unfold pmP; rw [if_neg hnl, HP.out]; simp [hx, HN.out, hn0]
        have hn1 : (n == 0) = false := by simpa using hn0
        have hn2 : (n != 0) = true := by simpa using hn0
        go_wp2_with fail
        go_ret3
        refine ⟨hF1.trans hF2, ?_⟩
        rw [hpm]
        rfl
    · rw [if_pos hx] at h1
      have hpm : pmP s.data.toList = .form (skipL x) := by unfold pmP; rw [if_neg hnl, HP.out]; simp [hx]
      obtain rfl := h1
      go_wp2_with fail
      go_ret3
      refine ⟨hF1, ?_⟩
      rw [hpm]
      rfl
end Go.Proofs.YtdhmloejgoacaaaGreatDoor
namespace Go.Proofs.YtdhmloejgoacaaaGreatDoor
open Go.RowKit Go.Bl Go.Lq Go.Tq

theorem drop_at {s : ByteArray} {i : Nat} {c : UInt8} {cs : Bs} (h : s.data.toList.drop i = c :: cs) : ∃ hi : i < s.size, s[i] = c ∧ s.data.toList.drop (i + 1) = cs := by
  have hl := bytes_len s
  have hlen := congrArg List.length h
  simp only [List.length_drop, List.length_cons] at hlen
  have hi : i < s.size := by omega
  refine ⟨hi, ?_, ?_⟩
  · have : s.data.toList[i]? = some c := by
      have := congrArg (fun l => l[0]?) h
      simpa using this
    have h2 : s[i] = s.data.toList[i]'(by rw [hl]; omega) := by cases s; rfl
    rw [h2]
    exact (List.getElem?_eq_some_iff.1 this).2
  · have := congrArg List.tail h
    simpa using this
theorem drop_none {s : ByteArray} {i : Nat} (h : s.data.toList.drop i = []) : s.size ≤ i := by
  have hl := bytes_len s
  have := List.drop_eq_nil_iff.1 h
  omega
def cutV (s : ByteArray) : Option Bs → Value
  | some r => .int .i64 ((s.size - r.length : Nat) : Int)
  | none => .int .i64 (-1)
def CutRel (s : ByteArray) (e : UInt8) (w : World) (v5 v6 : Value) (wr : World) : Prop :=
  ∃ (q : Bool) (i : Nat), v5 = .bool q ∧ v6 = .int .i64 (i : Int) ∧ i ≤ s.size + 1 ∧ wr = w ∧ cutGo e q (s.data.toList.drop i) = cutGo e false s.data.toList
theorem CutRel.next {s : ByteArray} {e : UInt8} {w : World} {q : Bool} {i j : Nat} {z : Int} (hz : z = (j : Int)) (hj : j ≤ s.size + 1) (h : cutGo e q (s.data.toList.drop j) = cutGo e false s.data.toList) (hij : i < j) (hi : i < s.size) :
    CutRel s e w (.bool q) (.int .i64 z) w ∧ s.size + 1 - (intOf (.int .i64 z)).toNat < s.size + 1 - (intOf (.int .i64 (i : Int))).toNat :=
  ⟨⟨q, j, rfl, by rw [hz], hj, rfl, h⟩, by subst hz; simp [intOf]; omega⟩
set_option maxRecDepth 100000 in
set_option maxHeartbeats 1000000 in
theorem cut_any (s : ByteArray) (e : UInt8) (he : e = 34 ∨ e = 125) (hs : s.size ≤ 65536) (w : World) :
    Calls Tryz.prog 218 #[.string s, .int .u8 (e.toNat : Int)] w fun x w' => x = .returned (cutV s (cutGo e false s.data.toList)) ∧ w' = w := by
  go_enter Tryz.func218, Tryz.ntmps218
  go_wp2_with fail
  go_loopw [5, 6] (fun v5 v6 wr => CutRel s e w v5 v6 wr) (fun _ v6 _ => s.size + 1 - (intOf v6).toNat)
  case atStart => exact ⟨false, 0, rfl, rfl, by omega, rfl, rfl⟩
  case round =>
    obtain ⟨q, i, rfl, rfl, hi, rfl, hc⟩ := hrel
    have HC := Lib.hid hc
    clear hc
    rcases hd : s.data.toList.drop i with _ | ⟨c, cs⟩
    · have hsi := drop_none hd
      have g0 : decide ((i : Int) < (s.size : Int)) = false := by simp; omega
      have HD := Lib.hid hd
      clear hd
      go_wp2_with fail
      go_ret
      refine ⟨?_, rfl⟩
      rw [← HC.out, HD.out]
      cases q <;> rfl
    · obtain ⟨hlt, hc, hd2⟩ := drop_at hd
      have g0 : decide ((i : Int) < (s.size : Int)) = true := by simp; omega
      have g1 : (0 : Int) ≤ (i : Int) ∧ (i : Int) < (s.size : Int) := by omega
      have HD := Lib.hid hd
      have HD2 := Lib.hid hd2
      have he34 : ((34 : Int) == 34) = true := rfl
      clear hd hd2
      have hcl : cs.length = s.size - (i + 1) := by
        have := congrArg List.length HD2.out
        rw [List.length_drop, bytes_len] at this
        exact this.symm
      by_cases q1 : c = 92
      · have q1a : ((c.toNat : Int) == 92) = true := by subst q1; rfl
        have q2a : ((c.toNat : Int) == 34) = false := by subst q1; rfl
        have q3a : ((c.toNat : Int) == (e.toNat : Int)) = false := by subst q1; rcases he with rfl | rfl <;> rfl
        have Q1 := Lib.hid q1
        clear q1
        cases q
        · go_wp2_with fail
          have q1 := Q1.out
          refine CutRel.next (j := i + 1) (by first | rfl | omega) (by omega) ?_ (by omega) hlt
          rw [HD2.out, ← HC.out, HD.out, cut_f, if_neg (by subst q1; decide), if_neg (by subst q1; rcases he with rfl | rfl <;> decide)]
        · go_wp2_with fail
          refine CutRel.next (j := i + 1 + 1) (by first | rfl | omega) (by omega) ?_ (by omega) hlt
          rw [← HC.out, HD.out, cut_t, if_pos Q1.out, ← List.drop_drop, HD2.out]
          cases cs with
          | nil => rfl
          | cons d ds => rfl
      have q1a : ((c.toNat : Int) == 92) = false := u8_ne (n := 92) (by omega) q1
      by_cases q2 : c = 34
      · have q2a : ((c.toNat : Int) == 34) = true := by subst q2; rfl
        have Q2 := Lib.hid q2
        clear q2
        cases q
        · go_wp2_with fail
          refine CutRel.next (j := i + 1) (by first | rfl | omega) (by omega) ?_ (by omega) hlt
          rw [HD2.out, ← HC.out, HD.out, cut_f, if_pos Q2.out]
        · rcases he with rfl | rfl
          · go_wp2_with fail
            go_ret
            refine ⟨?_, rfl⟩
            rw [← HC.out, HD.out, cut_t, if_neg q1, if_pos Q2.out, if_pos rfl]
            simp only [cutV]
            refine ret_int ?_
            omega
          · go_wp2_with fail
            refine CutRel.next (j := i + 1) (by first | rfl | omega) (by omega) ?_ (by omega) hlt
            rw [HD2.out, ← HC.out, HD.out, cut_t, if_neg q1, if_pos Q2.out, if_neg (by decide)]
      have q2a : ((c.toNat : Int) == 34) = false := u8_ne (n := 34) (by omega) q2
      by_cases q3 : c = e
      · have q3a : ((c.toNat : Int) == (e.toNat : Int)) = true := by subst q3; simp
        have Q3 := Lib.hid q3
        clear q3
        cases q
        · go_wp2_with fail
          go_ret
          refine ⟨?_, rfl⟩
          rw [← HC.out, HD.out, cut_f, if_neg q2, if_pos Q3.out]
          simp only [cutV]
          refine ret_int ?_
          omega
        · go_wp2_with fail
          refine CutRel.next (j := i + 1) (by first | rfl | omega) (by omega) ?_ (by omega) hlt
          rw [HD2.out, ← HC.out, HD.out, cut_t, if_neg q1, if_neg q2]
      · have q3a : ((c.toNat : Int) == (e.toNat : Int)) = false := by
          have := u8_ne (c := c) (n := e.toNat) e.toNat_lt (by rw [UInt8.ofNat_toNat]; exact q3)
          exact this
        cases q
        · go_wp2_with fail
          refine CutRel.next (j := i + 1) (by first | rfl | omega) (by omega) ?_ (by omega) hlt
          rw [HD2.out, ← HC.out, HD.out, cut_f, if_neg q2, if_neg q3]
        · go_wp2_with fail
          refine CutRel.next (j := i + 1) (by first | rfl | omega) (by omega) ?_ (by omega) hlt
          rw [HD2.out, ← HC.out, HD.out, cut_t, if_neg q1, if_neg q2]
end Go.Proofs.YtdhmloejgoacaaaGreatDoor
namespace Go.Proofs.YtdhmloejgoacaaaGreatDoor
open Go.RowKit Go.Bl Go.Lq Go.Tq

set_option maxRecDepth 100000 in
theorem isW_or (c : UInt8) : isW c = ((decide (97 ≤ (c ||| 32).toNat) && decide ((c ||| 32).toNat ≤ 122)) || (decide (48 ≤ c.toNat) && decide (c.toNat ≤ 57))) := by
  revert c; refine u8_all ?_; decide
set_option maxRecDepth 100000 in
theorem wordByte_any (c : UInt8) (w : World) : Calls Tryz.prog 92 #[.int .u8 (c.toNat : Int)] w fun e w' => e = .returned (.bool (isW c)) ∧ w' = w := by
  have hb := bits_or c
  have ho := isW_or c
  obtain ⟨d, hd⟩ : ∃ d, c ||| 32 = d := ⟨_, rfl⟩
  rw [hd] at hb ho
  obtain ⟨x, hx⟩ : ∃ x, decide (97 ≤ d.toNat) = x := ⟨_, rfl⟩
  obtain ⟨y, hy⟩ : ∃ y, decide (d.toNat ≤ 122) = y := ⟨_, rfl⟩
  obtain ⟨z, hz⟩ : ∃ z, decide (48 ≤ c.toNat) = z := ⟨_, rfl⟩
  obtain ⟨u, hu⟩ : ∃ u, decide (c.toNat ≤ 57) = u := ⟨_, rfl⟩
  rw [hx, hy, hz, hu] at ho
  rw [ho]
  have hx2 : decide ((d.toNat : Int) ≥ 97) = x := by rw [← hx]; apply decide_eq_decide.2; omega
  have hy2 : decide ((d.toNat : Int) ≤ 122) = y := by rw [← hy]; apply decide_eq_decide.2; omega
  have hz2 : decide ((c.toNat : Int) ≥ 48) = z := by rw [← hz]; apply decide_eq_decide.2; omega
  have hu2 : decide ((c.toNat : Int) ≤ 57) = u := by rw [← hu]; apply decide_eq_decide.2; omega
  clear ho hx hy hz hu hd
  go_enter Tryz.func92, Tryz.ntmps92
  go_wp2
  all_goals (go_ret; exact ⟨by simp_all, rfl⟩)
def TR : Nat := 84
def SkRel (b : Nat) (s : ByteArray) (l : Bs) (d : Bool) (w wr : World) : Prop := ∃ m, Ar 84 wr b s m d ∧ skipL m = skipL l ∧ Fr [b] w wr
def WdRel (s : ByteArray) (m : Bs) (w : World) (v3 : Value) (wr : World) : Prop := ∃ t r, v3 = .int .i64 ((s.size - r.length : Nat) : Int) ∧ m = t ++ r ∧ t.all isW = true ∧ r.length ≤ s.size ∧ r <:+ s.data.toList ∧ wr = w
theorem word_split {t r : Bs} (ht : t.all isW = true) (hr : ∀ c ∈ r.head?, isW c = false) : (t ++ r).takeWhile isW = t := by
  induction t with
  | nil =>
    cases r with
    | nil => rfl
    | cons c r => simp [hr c (by simp)]
  | cons e t ih =>
    simp only [List.all_cons, Bool.and_eq_true] at ht
    rw [List.cons_append, List.takeWhile_cons, if_pos ht.1, ih ht.2]
set_option maxRecDepth 100000 in
set_option maxHeartbeats 1000000 in
theorem word_any (b : Nat) (s : ByteArray) (l : Bs) (d : Bool) (w : World) (h : Ar 84 w b s l d) :
    Calls Tryz.prog 64 #[.pointer (some ⟨b, 0, none⟩)] w fun e w' =>
      e = .returned (.string ⟨(wordL l).toArray⟩) ∧ Ar 84 w' b s (skipL l) d ∧ Fr [b] w w' := by
  go_enter Tryz.func64, Tryz.ntmps64
  have H0 : SkRel b s l d w w := ⟨l, h, rfl, Fr.refl _ _⟩
  go_upto_block 0 with fail
  go_cut [] (fun wx => Ar 84 wx b s (skipL l) d ∧ Fr [b] w wx)
  case first =>
    go_wp2_with fail
    go_loopw [] (fun wr => SkRel b s l d w wr) (fun wr => s.size - posA wr b)
    case atStart => exact H0
    case round =>
      clear H0
      obtain ⟨m, hR, hm, hF⟩ := hrel
      have k0 := cell_of hR.cells 0
      have k1 := cell_of hR.cells 1
      have z1 := frozen_of hR.cells 1
      simp only [List.getElem?_toArray, List.getElem?_cons_zero, List.getElem?_cons_succ] at k0 k1
      rcases m with _ | ⟨c, m⟩
      · have g0 : decide (((s.size - ([] : Bs).length : Nat) : Int) < (s.size : Int)) = false := by simp
        go_wp2_with fail
        go_quiet (fail)
        go_wp2_with fail
        go_meet
        exact ⟨by rw [← hm]; exact hR.drewN _, hF.drewN _⟩
      · obtain ⟨p, hp1, hp2, hp3, hp4⟩ := hR.at
        rw [hp1] at k1
        have hsh := hR.short
        have g0 : decide ((p : Int) < (s.size : Int)) = true := by simp; omega
        have g1 : (0 : Int) ≤ (p : Int) ∧ (p : Int) < (s.size : Int) := by omega
        by_cases q1 : c = 32 ∨ c = 9
        · have hR2 : ∀ W, Ar 84 W b s (c :: m) d → Ar 84 (W.setCell ⟨b, 1, none⟩ (.int .i64 ((p : Int) + 1))) b s m d := fun W h => h.set (List.suffix_cons c m) (by rw [hp2]; rfl)
          have hsk : skipL m = skipL l := by rw [← hm, skipL_cons, if_pos q1]
          by_cases q2 : c = 32
          · have g2 : ((c.toNat : Int) == 32) = true := by subst q2; rfl
            go_wp2_with fail
            go_quiet (fail)
            go_wp2_with fail
            exact ⟨⟨m, hR2 _ (hR.drewN _), hsk, (hF.drewN _).setCell1 1 _⟩, posA_less hR (hR2 _ (hR.drewN _)) (by simp)⟩
          · have g2 : ((c.toNat : Int) == 32) = false := u8_ne (n := 32) (by omega) q2
            have g3 : ((c.toNat : Int) == 9) = true := by
              rcases q1 with q1 | q1
              · exact absurd q1 q2
              · subst q1; rfl
            clear q1
            go_wp2_with fail
            go_quiet (fail)
            go_wp2_with fail
            exact ⟨⟨m, hR2 _ (hR.drewN _), hsk, (hF.drewN _).setCell1 1 _⟩, posA_less hR (hR2 _ (hR.drewN _)) (by simp)⟩
        · have hsk : skipL l = c :: m := by rw [← hm, skipL_cons, if_neg q1]
          have g2 : ((c.toNat : Int) == 32) = false := u8_ne (n := 32) (by omega) (fun h => q1 (.inl h))
          have g3 : ((c.toNat : Int) == 9) = false := u8_ne (n := 9) (by omega) (fun h => q1 (.inr h))
          clear q1
          go_wp2_with fail
          go_quiet (fail)
          go_wp2_with fail
          go_meet
          exact ⟨by rw [hsk]; exact hR.drewN _, hF.drewN _⟩
  case rest =>
    clear H0
    obtain ⟨w1, rfl⟩ : ∃ w1, w1 = wc := ⟨_, rfl⟩
    obtain ⟨hR, hF⟩ := hcut
    obtain ⟨m, hm⟩ : ∃ m, skipL l = m := ⟨_, rfl⟩
    have hwl : wordL l = m.takeWhile isW := by rw [← hm]; rfl
    rw [hm] at hR
    have HW := Lib.hid hwl
    have HM := Lib.hid hm
    clear hwl hm
    have k0 := cell_of hR.cells 0
    have k1 := cell_of hR.cells 1
    simp only [List.getElem?_toArray, List.getElem?_cons_zero, List.getElem?_cons_succ] at k0 k1
    have hsh := hR.short
    have hlm := hR.left.1
    obtain ⟨q, hq⟩ : ∃ q, s.size - m.length = q := ⟨_, rfl⟩
    have H1 : WdRel s m w1 (.int .i64 ((s.size - m.length : Nat) : Int)) w1 := ⟨[], m, rfl, rfl, rfl, hlm, hR.suf, rfl⟩
    rw [hq] at k1 H1
    go_wp2_with fail
    go_loopw [3] (fun v3 wr => WdRel s m w1 v3 wr) (fun v3 _ => s.size - (intOf v3).toNat)
    case atStart => exact H1
    case round =>
      clear H1
      obtain ⟨t, r, rfl, hma, ht, hrl, hrs, rfl⟩ := hrel
      have hlen := congrArg List.length hma
      simp only [List.length_append] at hlen
      have HA := Lib.hid hma
      have HT := Lib.hid ht
      have HL := Lib.hid hlen
      have HRS := Lib.hid hrs
      clear hma ht hlen hrs
      obtain ⟨p, hp⟩ : ∃ p, s.size - r.length = p := ⟨_, rfl⟩
      rw [hp]
      have hfin : (∀ c ∈ r.head?, isW c = false) → s.extract q p = ⟨(m.takeWhile isW).toArray⟩ := by
        intro hr
        rw [HA.out, word_split HT.out hr]
        apply bs_ext
        rw [extract_list]
        have h1 := drop_suf hR.suf
        rw [bytes_len, hq] at h1
        rw [h1, HA.out]
        have : p - q = t.length := by have := HL.out; omega
        rw [this]
        simp
      have hpq : q ≤ p := by have := HL.out; omega
      have hps : p ≤ s.size := by omega
      have g8 : (0 : Int) ≤ (q : Int) ∧ (q : Int) ≤ (p : Int) ∧ (p : Int) ≤ (s.size : Int) := by omega
      have g7 : (q : Int) ≤ (p : Int) := by omega
      have g9 : (p : Int) ≤ (s.size : Int) := by omega
      rcases r with _ | ⟨c, r⟩
      · obtain rfl : s.size = p := by simpa using hp
        have g0 : decide ((s.size : Int) < (s.size : Int)) = false := by simp
        have hfn := hfin (by simp)
        clear hfin g8 g7 g9 hps
        have g7 : (q : Int) ≤ (s.size : Int) := by omega
        have g8 : (0 : Int) ≤ (q : Int) ∧ (q : Int) ≤ (s.size : Int) := by omega
        go_wp2_with fail
        go_quiet (fail)
        go_wp2_with fail
        go_ret
        exact ⟨ret_val (congrArg Value.string (by rw [HW.out])), by rw [HM.out]; exact hR.drewN _, hF.drewN _⟩
      · obtain ⟨u, hu⟩ := HRS.out
        have hsl : s.data.toList.drop p = c :: r := by
          have h1 := drop_suf HRS.out
          rw [bytes_len, hp] at h1
          exact h1
        obtain ⟨hlt, hc, hd2⟩ := drop_at hsl
        have HD := Lib.hid hsl
        have HD2 := Lib.hid hd2
        have HU := Lib.hid hu
        clear hsl hd2 hu
        have g0 : decide ((p : Int) < (s.size : Int)) = true := by simp; omega
        have g1 : (0 : Int) ≤ (p : Int) ∧ (p : Int) < (s.size : Int) := by omega
        have hwb : ∀ W, Calls Tryz.prog 92 #[.int .u8 (c.toNat : Int)] W fun e w' => e = .returned (.bool (isW c)) ∧ w' = W := wordByte_any c
        rcases hv : isW c with _ | _
        · have hfn := hfin (by simp [hv])
          rw [hv] at hwb
          clear hfin
          go_wp2_with fail
          refine (hwb _).mono ?_
          rintro e w2 ⟨rfl, rfl⟩
          go_wp2_with fail
          go_quiet (fail)
          go_wp2_with fail
          go_ret
          exact ⟨ret_val (congrArg Value.string (by rw [HW.out])), by rw [HM.out]; exact hR.drewN _, hF.drewN _⟩
        · rw [hv] at hwb
          clear hfin
          go_wp2_with fail
          refine (hwb _).mono ?_
          rintro e w2 ⟨rfl, rfl⟩
          go_wp2_with fail
          have hrl2 : r.length + 1 ≤ s.size := by simpa using hrl
          refine ⟨⟨t ++ [c], r, ?_, by rw [HA.out]; simp, by have := HT.out; simp [this, hv], by omega, (List.suffix_cons c r).trans HRS.out, rfl⟩, by simp [intOf]; omega⟩
          have : (s.size - r.length : Nat) = p + 1 := by simp at hp; omega
          rw [this]
          rfl
end Go.Proofs.YtdhmloejgoacaaaGreatDoor
namespace Go.Proofs.YtdhmloejgoacaaaGreatDoor
open Go.RowKit Go.Bl Go.Lq Go.Tq

theorem wordL_pre (l : Bs) : wordL l <+: skipL l := List.takeWhile_prefix _
theorem drop_word (l : Bs) : (skipL l).drop (wordL l).length <:+ skipL l := List.drop_suffix _ _
/-- The word W is read: the rest, whether it can not go on. -/
def wordR (W l : Bs) (d : Bool) : Bs × Bool := if wordL l = W then ((skipL l).drop W.length, d) else (skipL l, true)
set_option maxRecDepth 100000 in
theorem wordRead_any (W : ByteArray) (b : Nat) (s : ByteArray) (l : Bs) (d : Bool) (w : World) (h : Ar 84 w b s l d) :
    Calls Tryz.prog 61 #[.string W, .pointer (some ⟨b, 0, none⟩)] w fun e w' =>
      e = .returned (.tuple #[]) ∧ Ar 84 w' b s (wordR W.data.toList l d).1 (wordR W.data.toList l d).2 ∧ Fr [b] w w' := by
  go_enter Tryz.func61, Tryz.ntmps61
  go_wp2_with fail
  refine (word_any b s l d _ h).mono ?_
  rintro e w1 ⟨rfl, hR, hF⟩
  have k1 := cell_of hR.cells 1
  have k2 := cell_of hR.cells 2
  have z1 := frozen_of hR.cells 1
  have z2 := frozen_of hR.cells 2
  simp only [List.getElem?_toArray, List.getElem?_cons_zero, List.getElem?_cons_succ] at k1 k2
  have hsh := hR.short
  have hlm := hR.left.1
  have hpl := (wordL_pre l).length_le
  by_cases q : wordL l = W.data.toList
  · have hw : (wordL l == W.toList) = true := by rw [ByteArray.toList_eq]; simpa using q
    have hq2 : wordR W.data.toList l d = ((skipL l).drop W.data.toList.length, d) := by unfold wordR; rw [if_pos q]
    have hWs : W.size ≤ (skipL l).length := by rw [← bytes_len, ← q]; exact hpl
    have HQ2 := Lib.hid hq2
    clear hq2 q
    go_wp2_with fail
    rw [HQ2.out]
    refine ⟨rfl, .tuple #[], by simp [results, Tryz.results61, go_sem], rfl, ?_, hF.setCell1 1 _⟩
    refine hR.set (List.drop_suffix _ _) ?_
    rw [List.length_drop, bytes_len]
    omega
  · have hw : (wordL l == W.toList) = false := by rw [ByteArray.toList_eq]; simpa using q
    have hq2 : wordR W.data.toList l d = (skipL l, true) := by unfold wordR; rw [if_neg q]
    have HQ2 := Lib.hid hq2
    clear hq2 q
    go_wp2_with fail
    rw [HQ2.out]
    exact ⟨rfl, .tuple #[], by simp [results, Tryz.results61, go_sem], rfl, hR.flag true, hF.setCell1 2 _⟩
theorem as_ww (v : Value) (w : World) : (Instr.typeAssert (.iface 85 v) 128 85 true).run Tryz.prog w = .ok (.tuple #[v, .bool true]) w := by kernel_rfl
theorem as_mw (v : Value) (w : World) : (Instr.typeAssert (.iface 124 v) 128 85 true).run Tryz.prog w = .ok (.tuple #[.string ⟨#[]⟩, .bool false]) w := by kernel_rfl
theorem as_mm (v : Value) (w : World) : (Instr.typeAssert (.iface 124 v) 128 124 true).run Tryz.prog w = .ok (.tuple #[v, .bool true]) w := by kernel_rfl
set_option maxRecDepth 100000 in
/-- Does the word W stand next? -/
theorem seesWord_any (W : ByteArray) (b : Nat) (s : ByteArray) (l : Bs) (d : Bool) (w : World) (h : Ar 84 w b s l d) :
    Calls Tryz.prog 91 #[.pointer (some ⟨b, 0, none⟩), .iface 85 (.string W)] w fun e w' =>
      e = .returned (.bool (!d && decide (wordL l = W.data.toList))) ∧ Ar 84 w' b s (skipL l) d ∧ Fr [b] w w' := by
  go_enter Tryz.func91, Tryz.ntmps91
  go_wp2_with fail
  refine (word_any b s l d _ h).mono ?_
  rintro e w1 ⟨rfl, hR, hF⟩
  have hA := as_ww (.string W) w1
  have k2 := cell_of hR.cells 2
  simp only [List.getElem?_toArray, List.getElem?_cons_zero, List.getElem?_cons_succ] at k2
  by_cases q : wordL l = W.data.toList
  · obtain rfl : W = ⟨(wordL l).toArray⟩ := by apply bs_ext; simp [q]
    have hq2 : (!d && decide (wordL l = (ByteArray.data ⟨(wordL l).toArray⟩).toList)) = !d := by simp
    clear hq2 q
    cases d
    · go_wp2_with fail
      go_ret
      refine ⟨ret_val (congrArg Value.bool ?_), hR, hF⟩
      simp
    · go_wp2_with fail
      go_ret
      refine ⟨ret_val (congrArg Value.bool ?_), hR, hF⟩
      simp
  · have hw : (wordL l == W.toList) = false := by rw [ByteArray.toList_eq]; simpa using q
    have hq2 : (!d && decide (wordL l = W.data.toList)) = false := by simp [q]
    have HQ2 := Lib.hid hq2
    clear hq2 q
    cases d
    · go_wp2_with fail
      go_ret
      rw [HQ2.out]
      exact ⟨rfl, hR, hF⟩
    · go_wp2_with fail
      go_ret
      rw [HQ2.out]
      exact ⟨rfl, hR, hF⟩
theorem pre_brace (m : Bs) : List.isPrefixOf [123] m = decide (m.head? = some 123) := by
  cases m with
  | nil => rfl
  | cons c cs =>
    by_cases h : c = 123
    · subst h; simp [List.isPrefixOf]
    · simp [List.isPrefixOf, h, Ne.symm h]
set_option maxHeartbeats 1000000 in
set_option maxRecDepth 100000 in
/-- Do matchers stand next? -/
theorem seesMat_any (p : Addr) (b : Nat) (s : ByteArray) (l : Bs) (d : Bool) (w : World) (h : Ar 84 w b s l d) :
    Calls Tryz.prog 91 #[.pointer (some ⟨b, 0, none⟩), .iface 124 (.agg #[.pointer (some p)])] w fun e w' =>
      e = .returned (.bool (!d && decide ((skipL l).head? = some 123))) ∧ Ar 84 w' b s (skipL l) d ∧ Fr [b] w w' := by
  go_enter Tryz.func91, Tryz.ntmps91
  go_wp2_with fail
  refine (word_any b s l d _ h).mono ?_
  rintro e w1 ⟨rfl, hR, hF⟩
  have hA := as_mw (.agg #[.pointer (some p)]) w1
  have hA2 := as_mm (.agg #[.pointer (some p)]) w1
  obtain ⟨m, hm⟩ : ∃ m, skipL l = m := ⟨_, rfl⟩
  rw [hm] at hR
  have k0 := cell_of hR.cells 0
  have k1 := cell_of hR.cells 1
  have k2 := cell_of hR.cells 2
  simp only [List.getElem?_toArray, List.getElem?_cons_zero, List.getElem?_cons_succ] at k0 k1 k2
  obtain ⟨hl, hx⟩ := hR.left
  have hsh := hR.short
  obtain ⟨v, hv⟩ : ∃ v, decide (m.head? = some 123) = v := ⟨_, rfl⟩
  have hcall : ∀ w, Calls Tryz.prog 76 #[.string (s.extract (s.size - m.length) s.size), .string ⟨#[123]⟩] w fun e w' => e = .returned (.bool v) ∧ w' = w := by
    intro w
    have := hasPrefix_any (s.extract (s.size - m.length) s.size) ⟨#[123]⟩ w
    rw [hx, show (ByteArray.data ⟨#[123]⟩).toList = ([123] : Bs) from rfl, show List.isPrefixOf [123] m = v by
      rw [← hv]
      exact pre_brace m] at this
    exact this
  have HV : Hid (decide ((skipL l).head? = some 123) = v) := Lib.hid (by rw [hm]; exact hv)
  have HM := Lib.hid hm
  have HX := Lib.hid hx
  clear hv hm hx
  have hR2 : Ar 84 (w1.alloc (.cells #[.pointer (some p)] 124)) b s m d := hR.fr ((Fr.refl [] _).alloc _) (by simp)
  have j0 := cell_of hR2.cells 0
  have j1 := cell_of hR2.cells 1
  have j2 := cell_of hR2.cells 2
  simp only [List.getElem?_toArray, List.getElem?_cons_zero, List.getElem?_cons_succ] at j0 j1 j2
  go_upto_region 8 with fail
  have hF2 : Fr [b] w (w1.alloc (.cells #[.pointer (some p)] 124)) := hF.alloc _
  obtain ⟨w2, hw2⟩ : ∃ w2, w1.alloc (.cells #[.pointer (some p)] 124) = w2 := ⟨_, rfl⟩
  rw [hw2] at hR2 hF2 j0 j1 j2 ⊢
  clear hw2 hA hA2 k0 k1 k2 hR
  cases d
  · go_quiet ((go_at_call 76; exact Calls.quiet_of_same (hcall _)))
    go_wp2_with fail
    go_ret
    rw [HV.out, HM.out]
    exact ⟨rfl, hR2.drewN _, hF2.drewN _⟩
  · go_quiet ((go_at_call 76; exact Calls.quiet_of_same (hcall _)))
    go_wp2_with fail
    go_ret
    rw [HV.out, HM.out]
    exact ⟨rfl, hR2.drewN _, hF2.drewN _⟩
end Go.Proofs.YtdhmloejgoacaaaGreatDoor
namespace Go.Proofs.YtdhmloejgoacaaaGreatDoor
open Go.RowKit Go.Bl Go.Lq Go.Tq

theorem form_suf {m r : Bs} (h : pmP (123 :: 97 :: 61 :: m) = .form r) : r <:+ m := by
  have hs := matchL_a m
  unfold pmP at h
  split at h
  · cases h
  · cases hm : matchL (123 :: 97 :: 61 :: m) with
    | bad x =>
      rw [hm] at h hs
      cases h
      exact hs
    | ok ms x =>
      rw [hm] at h hs
      simp only at h
      split at h
      · cases h
        exact (skipL_suf x).trans hs
      · split at h <;> cases h
theorem q_good {cs t r : Bs} (h : quotedBody [] cs = .ok t r) : cutGo 34 false (34 :: cs) = some r ∧ unqP ((34 :: cs).take ((34 :: cs).length - r.length)) = some t ∧ r.length < (34 :: cs).length := by
  obtain ⟨a, rfl, ha⟩ := quoted_local cs.length [] cs t r (Nat.le_refl _) h
  refine ⟨?_, ?_, by simp; omega⟩
  · rw [cut_f, if_pos rfl, cut_quoted 34 _ [] _ t r (Nat.le_refl _) h, if_pos rfl]
  · have : (34 :: (a ++ r)).length - r.length = (34 :: a).length := by simp; omega
    rw [this, ← List.cons_append, List.take_left]
    unfold unqP
    have h2 := ha []
    rw [List.append_nil] at h2
    rw [show quotedM (34 :: a) = quotedBody [] a from rfl, h2]
    rfl
theorem q_bad {cs x : Bs} (h : quotedBody [] cs = .bad x) : ∀ r', cutGo 34 false (34 :: cs) = some r' → unqP ((34 :: cs).take ((34 :: cs).length - r'.length)) = none := by
  intro r' hc
  obtain ⟨p, hp, hne⟩ := cut_prefix 34 _ false _ r' (Nat.le_refl _) hc
  have hl : (34 :: cs).length - r'.length = p.length := by rw [hp]; simp
  rw [hl]
  have ht : (34 :: cs).take p.length = p := by rw [hp, List.take_left]
  rw [ht]
  cases p with
  | nil => exact absurd rfl hne
  | cons c a =>
    rw [List.cons_append] at hp
    injection hp with h1 h2
    subst h1 h2
    unfold unqP
    rw [show quotedM (34 :: a) = quotedBody [] a from rfl]
    cases hq : quotedBody [] a with
    | bad y => rfl
    | ok t r =>
      simp only
      by_cases hr : r = []
      · subst hr
        obtain ⟨b, hb, hx⟩ := quoted_local a.length [] a t [] (Nat.le_refl _) hq
        rw [List.append_nil] at hb
        subst hb
        have := hx r'
        rw [h] at this
        cases this
      · rw [if_neg hr]
end Go.Proofs.YtdhmloejgoacaaaGreatDoor
namespace Go.Proofs.YtdhmloejgoacaaaGreatDoor
open Go.RowKit Go.Bl Go.Lq

set_option maxRecDepth 100000 in
theorem textR_plain (s : ByteArray) (w : World) : Calls Tryz.prog 111 #[.string s] w fun e w' => e = .returned (.bool (plainP Lib.validD s.data.toList)) ∧ Fr [] w w' := by
  have hlen := bytes_len s
  by_cases h : s.size ≤ 256
  · have hv := utf8R_any s (by omega) w
    have hp : plainP Lib.validD s.data.toList = Lib.validD s.data.toList := by unfold plainP; rw [hlen, decide_eq_true h, Bool.true_and]
    rw [hp]
    obtain ⟨b, hb⟩ : ∃ b, Lib.validD s.data.toList = b := ⟨_, rfl⟩
    rw [hb] at hv ⊢
    have h1 : (s.size : Int) ≤ 256 := by omega
    clear hp hb
    go_enter Tryz.func111, Tryz.ntmps111
    go_wp2_with fail
    refine hv.mono ?_
    rintro e w' ⟨rfl, hF⟩
    go_wp2
    go_ret
    exact ⟨rfl, hF⟩
  · have hp : plainP Lib.validD s.data.toList = false := by unfold plainP; rw [hlen, decide_eq_false h, Bool.false_and]
    rw [hp]
    have h1 : ¬ (s.size : Int) ≤ 256 := by omega
    clear hp
    go_enter Tryz.func111, Tryz.ntmps111
    go_wp2
    go_ret
    exact ⟨rfl, Fr.refl _ _⟩
set_option maxRecDepth 100000 in
theorem valueR_any (s : ByteArray) (w : World) : Calls Tryz.prog 87 #[.string s] w fun e w' => e = .returned (.bool (valueP Lib.validD s.data.toList)) ∧ Fr [] w w' := by
  have he := empty_iff s
  by_cases h : s.data.toList = []
  · have hp : valueP Lib.validD s.data.toList = false := by unfold valueP; rw [h]; rfl
    rw [hp]
    rw [decide_eq_true h] at he
    clear hp h
    go_enter Tryz.func87, Tryz.ntmps87
    go_wp2
    go_ret
    exact ⟨rfl, Fr.refl _ _⟩
  · have hv := textR_plain s w
    have hp : valueP Lib.validD s.data.toList = plainP Lib.validD s.data.toList := by unfold valueP; rw [decide_eq_true h, Bool.true_and]
    rw [hp]
    obtain ⟨b, hb⟩ : ∃ b, plainP Lib.validD s.data.toList = b := ⟨_, rfl⟩
    rw [hb] at hv ⊢
    rw [decide_eq_false h] at he
    clear hp hb h
    go_enter Tryz.func87, Tryz.ntmps87
    go_wp2_with fail
    refine hv.mono ?_
    rintro e w' ⟨rfl, hF⟩
    go_wp2
    go_ret
    exact ⟨rfl, hF⟩
end Go.Proofs.YtdhmloejgoacaaaGreatDoor
